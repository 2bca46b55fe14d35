/-
  Parts of the proof: NS, NR, NT, EvOpen, ModOpen, CO, Z5, NU.
-/
import Derived.Test.YtbahakgmbceflaaGreatNsm16
import Derived.Test.YtbahakgmbceflaaGreatProg
set_option linter.unusedVariables false
set_option linter.unusedSimpArgs false
namespace Go.Proofs.YtbahakgmbceflaaGreat
section
open Go.RowKit
theorem capV_all (r : Int) : capV r ≤ 1048576 := by
  unfold capV
  have h1 : (2 : Nat) ^ (min r.toNat 20) ≤ 2 ^ 20 := Nat.pow_le_pow_right (by omega) (by omega)
  have h2 : ((2 ^ (min r.toNat 20) : Nat) : Int) = (2 : Int) ^ (min r.toNat 20) := by simp
  omega
theorem chk_vals (m : Mod) (n : Nd) (v : List Int) (hv : v.length = m.attrs.length) : chkS m ⟨v, n.opn, n.don, n.did, n.cnt⟩ = chkS m (statZ m n) := by
  have e : (statZ m n).vals.length = v.length := by rw [hv]; simp [statZ]
  unfold chkS
  rw [e]
  rfl
abbrev St0 : List AV := [.c (.slice none 0 0), eI 0, eI 0, .c (.slice none 0 0), .c (.slice none 0 0)]
def NSmpP (m : Mod) (c : List Int) (n : Nd) (R : Res) : Prop :=
  (¬ NodeP m c n ∧ R = ⟨.tup [.agg St0, eB false], [], 0⟩) ∨ (NodeP m c n ∧ ∃ v : List Int, R = ⟨.tup [.agg [sI v, eI n.opn, eI n.don, sI n.did, sI n.cnt], eB true], [], 0⟩ ∧ v.length = m.attrs.length ∧ zoneM v c (leftN m n.cnt m.events.length) = n.z ∧ ∀ x ∈ v, ok64 x)
theorem res0_ok : (⟨.tup [.agg St0, eB false], [], 0⟩ : Res).Ok := ⟨fun id o h => (by cases h), by simp [AV.lt, AV.ltL]⟩
theorem resv_ok (v : List Int) (n : Nd) : (⟨.tup [.agg [sI v, eI n.opn, eI n.don, sI n.did, sI n.cnt], eB true], [], 0⟩ : Res).Ok := ⟨fun id o h => (by cases h), by simp [AV.lt, AV.ltL]⟩
set_option maxRecDepth 100000 in
set_option maxHeartbeats 16000000 in
theorem nodeSample_A (m : Mod) (c : List Int) (n : Nd) (he : m.events.length ≤ 10) (hm : ∀ e ∈ m.events, e.times ≤ 10 ∧ e.sets.length ≤ 10) (ha : m.attrs.length ≤ 1000000) (h1 : n.z.cls.length ≤ 40) (h2 : n.z.gaps.length ≤ 40) (h3 : c.length ≤ 1000000) (hc : ∀ x ∈ c, -1099511627776 ≤ x ∧ x ≤ 1099511627776) (hat : ∀ x ∈ n.z.cls, x.attrs < 9223372036854775808) (h5 : n.did.length ≤ 1000000) (h4 : n.cnt.length ≤ 1000000) : ARel Tryz.prog 8 [.agg (eMod m), sI c, .agg (eNd n)] (NSmpP m c n) := by
  obtain ⟨t, ht, hCk⟩ := adet_iff (nodeCheck_A m c n he hm ha (by omega) (by omega) h3 (fun x hx => by have := hc x hx; unfold ok64; omega) h5 h4)
  have hA := nodeAt_A m n he hm h4
  have hSt := status_A (n.z.cls.map eCls) (n.z.gaps.map fun n => [eI n]) n.opn n.don n.did n.cnt h5 h4
  have hS := sampleQ_A n.z (m.attrs.length : Int) c (leftN m n.cnt m.events.length) h1 h2 h3 hc (capV_all _) hat
  refine arel_of_sc Tryz.func8 rfl (by decide) Tryz.ntmps8 Tryz.results8 rfl ?_
  refine sc_cut (fun st => st = ⟨42, [(1, sI c), (3, .op 0 0 0), (5, .op 1 0 0), (6, .op 2 0 0)], [(0, some (.box 32 (eMod m))), (1, some (.box 38 (eNd n))), (2, some (.box 43 St0))], 3⟩) (sc_of mixedT ?_) ?_
  · (repeat' (first | simp (maxSteps := 5000000) (implicitDefEqProofs := false) only [ruA, ruB, aEv, ASt.get, aget, ASt.put, aBox, aCells, oneC, oneCL, Value.cells, Value.oneCell', envOf, ↓reduceIte, Nat.reduceLT, Nat.reduceEqDiff, Nat.reduceAdd, eq_self, tyZ_43] | (with_reducible refine aIf_split (fun _ => ?_) (fun _ => ?_)) | (with_reducible refine aSel_split (fun _ => ?_) (fun _ => ?_)) | (with_reducible refine aGd_split (fun _ => ?_) (fun _ => ?_)) | (with_reducible refine aDraw_quiet (by kernel_rfl) ?_)))
    all_goals exact aTo_mk (weak_cut1 (by (first | ((simp only [envIn, tabIn, envLt, tabLt, AObj.lt, AV.lt, AV.ltL, ruW, ASt.get, aget, ↓reduceIte, reduceCtorEq, Nat.reduceLT, Nat.reduceEqDiff, eq_self, St0]) <;> (repeat' apply And.intro) <;> first | (rw [wrapK (by omega)]; done) | (simp; done) | omega) | fail))) rfl
  rintro _ rfl
  cases t with
  | false =>
    have hno : ¬ NodeP m c n := fun h => by
      have := ht.2 h
      cases this
    refine sc_of mixedT ?_
    (repeat' (first | simp (maxSteps := 5000000) (implicitDefEqProofs := false) only [ruA, ruB, aEv, aTake, aLoad, aUn, un1, ASt.get, aget, ASt.put, aStore, aBuild, aFill, oneParts, aCells, oneC, oneCL, Value.oneCell', aResL, aOne, ↓reduceIte, Nat.reduceLT, Nat.reduceEqDiff, Nat.reduceAdd, eq_self, tyA_43, tyS_43, tyA_32, tyS_32, tyA_38, tyS_38, tyB_43, St0] | (with_reducible refine aIf_split (fun _ => ?_) (fun _ => ?_)) | (with_reducible refine aSel_split (fun _ => ?_) (fun _ => ?_)) | (with_reducible refine aGd_split (fun _ => ?_) (fun _ => ?_)) | (with_reducible refine aDraw_quiet (by kernel_rfl) ?_) | ((with_reducible apply callV); exact (hCk)) | ((with_reducible apply callD); exact (hCk))))
    all_goals exact ⟨⟨.tup [.agg St0, eB false], [], 0⟩, Or.inl ⟨hno, rfl⟩, res0_ok, ⟨[], by simp, rfl, trivial⟩⟩
  | true =>
  have hC := ht.1 rfl
  refine sc_cut (fun st => st = ⟨42, [(1, sI c), (3, .op 0 0 0), (5, .op 1 0 0), (6, .op 2 0 0)], [(0, some (.box 32 (eMod m))), (1, some (.box 38 (eNd n))), (2, some (.box 43 St0))], 3⟩) (sc_of mixedT ?_) ?_
  · (repeat' (first | simp (maxSteps := 5000000) (implicitDefEqProofs := false) only [ruA, ruB, aEv, aTake, aLoad, aUn, un1, ASt.get, aget, ASt.put, ↓reduceIte, Nat.reduceLT, Nat.reduceEqDiff, Nat.reduceAdd, eq_self, tyA_32, tyS_32, tyA_38, tyS_38] | (with_reducible refine aIf_split (fun _ => ?_) (fun _ => ?_)) | (with_reducible refine aSel_split (fun _ => ?_) (fun _ => ?_)) | (with_reducible refine aGd_split (fun _ => ?_) (fun _ => ?_)) | (with_reducible refine aDraw_quiet (by kernel_rfl) ?_) | ((with_reducible apply callV); exact (hCk)) | ((with_reducible apply callD); exact (hCk))))
    all_goals exact aTo_mk (weak_cut1 (by (first | ((simp only [envIn, tabIn, envLt, tabLt, AObj.lt, AV.lt, AV.ltL, ruW, ASt.get, aget, ↓reduceIte, Nat.reduceLT, Nat.reduceEqDiff, eq_self, St0]) <;> (repeat' apply And.intro) <;> first | (rw [wrapK (by omega)]; done) | (simp; done) | omega) | fail))) rfl
  rintro _ rfl
  have hC2 := hC.2
  obtain ⟨L, hL⟩ : ∃ L, leftN m n.cnt m.events.length = L := ⟨_, rfl⟩
  rw [hL] at hA hS hC2
  refine sc_cut (fun st => st = ⟨42, [(1, sI c), (3, .op 0 0 0), (5, .op 1 0 0), (6, .op 2 0 0), (8, .op 3 0 0)], [(0, some (.box 32 (eMod m))), (1, some (.box 38 (eNd n))), (2, some (.box 43 St0)), (3, some (.box 65 (eNd n ++ [eI L])))], 4⟩) (sc_of mixedT ?_) ?_
  · (repeat' (first | simp (maxSteps := 5000000) (implicitDefEqProofs := false) only [ruA, ruB, aEv, aTake, aLoad, ASt.get, aget, ASt.put, aStore, aBox, aCells, oneC, oneCL, Value.cells, Value.oneCell', ↓reduceIte, Nat.reduceLT, Nat.reduceEqDiff, Nat.reduceAdd, eq_self, AV.shift, AV.shiftL, tyA_32, tyS_32, tyA_38, tyS_38, tyZ_65, tyS_65] | (with_reducible refine aIf_split (fun _ => ?_) (fun _ => ?_)) | (with_reducible refine aSel_split (fun _ => ?_) (fun _ => ?_)) | (with_reducible refine aGd_split (fun _ => ?_) (fun _ => ?_)) | (with_reducible refine aDraw_quiet (by kernel_rfl) ?_) | ((with_reducible apply callT); exact (hA); exact (.inl (by simp [roL, roA, treeL, treeC])))))
    all_goals exact aTo_mk (weak_cut1 (by (first | ((simp only [envIn, tabIn, envLt, tabLt, AObj.lt, AV.lt, AV.ltL, ruW, ASt.get, aget, ↓reduceIte, reduceCtorEq, Nat.reduceLT, Nat.reduceEqDiff, eq_self, St0]) <;> (repeat' apply And.intro) <;> first | (rw [wrapK (by omega)]; done) | (simp; done) | omega) | fail))) rfl
  rintro _ rfl
  refine sc_cut (fun st => ∃ v : List Int, v.length = m.attrs.length ∧ zoneM v c L = n.z ∧ (∀ x ∈ v, ok64 x) ∧ st = ⟨42, [(5, .op 1 0 0), (6, .op 2 0 0), (9, sI v), (10, eB true)], [(1, some (.box 38 (eNd n))), (2, some (.box 43 St0))], 4⟩) (sc_of mixedT ?_) ?_
  · (repeat' (first | simp (maxSteps := 5000000) (implicitDefEqProofs := false) only [ruA, ruB, aEv, aTake, aLoad, aField, aLen, ASt.get, aget, ASt.put, ↓reduceIte, reduceCtorEq, Nat.reduceLT, Nat.reduceEqDiff, Nat.reduceAdd, Nat.reduceLeDiff, eq_self, ne_eq, tyF_65_0, tyF_38_0, tyA_36, tyS_36, tyF_32_0, tyA_22, tyS_22, tyE_22, tyF_65_1, tyA_3, tyS_3] | (with_reducible refine aIf_split (fun _ => ?_) (fun _ => ?_)) | (with_reducible refine aSel_split (fun _ => ?_) (fun _ => ?_)) | (with_reducible refine aGd_split (fun _ => ?_) (fun _ => ?_))))
    refine callP hS fun R hR => ?_
    rcases hR with ⟨h6, rfl⟩ | ⟨h6, v, rfl, h7, h8, h9⟩
    · exact (h6 hC2).elim
    · have hpl : (AObj.row 2 1 (List.map (fun n => [eI n]) v)).plain := fun row hr av ha => by
        obtain ⟨m, _, rfl⟩ := List.mem_map.1 hr
        simp at ha
        rw [ha]
        trivial
      have eS : ATab.shift 4 [(0, some (.row 2 1 (List.map (fun n => [eI n]) v)))] = [(4, some (.row 2 1 (List.map (fun n => [eI n]) v)))] := by simp [ATab.shift, AObj.shift]
      refine ⟨.inr (by simp [AV.plain, AV.plainL, ATab.plain, hpl]), ?_⟩
      (repeat' (first | simp (maxSteps := 5000000) (implicitDefEqProofs := false) only [ruA, ruB, aEv, aExtract, ASt.get, aget, ASt.put, ↓reduceIte, Nat.reduceLT, Nat.reduceEqDiff, Nat.reduceAdd, eq_self, AV.shift, AV.shiftL, eS] | (with_reducible refine aIf_split (fun _ => ?_) (fun _ => ?_)) | (with_reducible refine aSel_split (fun _ => ?_) (fun _ => ?_)) | (with_reducible refine aGd_split (fun _ => ?_) (fun _ => ?_)) | (with_reducible refine aDraw_quiet (by kernel_rfl) ?_)))
      all_goals refine aTo_mk ((weak_frz _ 4).trans ?_) ⟨v, by omega, h8, h9, rfl⟩
      all_goals simp [frz1, frzEnv, frzTab, ATab.get_cons, AObj.frz, AV.frz, AV.frzL]
      all_goals exact (weak_cut1 (by (first | ((simp only [envIn, tabIn, envLt, tabLt, AObj.lt, AV.lt, AV.ltL, ruW, ASt.get, aget, ↓reduceIte, Nat.reduceLT, Nat.reduceEqDiff, eq_self, St0]) <;> (repeat' apply And.intro) <;> first | (rw [wrapK (by omega)]; done) | (simp; done) | omega) | fail)))
  rintro _ ⟨v, h7, h8, h9, rfl⟩
  refine sc_of mixedT ?_
  (repeat' (first | simp (maxSteps := 5000000) (implicitDefEqProofs := false) only [ruA, ruB, aEv, aTake, aLoad, aField, aUn, un1, ASt.get, aget, ASt.put, aStore, aBox, aCells, oneC, oneCL, Value.cells, Value.oneCell', aResL, aOne, ↓reduceIte, Nat.reduceLT, Nat.reduceEqDiff, Nat.reduceAdd, Nat.reduceLeDiff, eq_self, AV.shift, AV.shiftL, tyA_43, tyS_43, tyZ_43, tyA_38, tyS_38, tyF_43_0, tyS_23, St0] | (with_reducible refine aIf_split (fun _ => ?_) (fun _ => ?_)) | (with_reducible refine aSel_split (fun _ => ?_) (fun _ => ?_)) | (with_reducible refine aGd_split (fun _ => ?_) (fun _ => ?_)) | (with_reducible refine aDraw_quiet (by kernel_rfl) ?_) | ((with_reducible apply callT); exact (hSt); exact (.inl (by simp [roL, roA, treeL, treeC])))))
  all_goals exact ⟨⟨.tup [.agg [sI v, eI n.opn, eI n.don, sI n.did, sI n.cnt], eB true], [], 0⟩, Or.inr ⟨hC, v, rfl, h7, by rw [hL]; exact h8, h9⟩, resv_ok v n, ⟨[], by simp, rfl, trivial⟩⟩
end
section
open Go.RowKit
theorem aLoop_zero {P : Program} {x : Code} {Q : Exit → ASt → Prop} {st : ASt} (h : aCode P x (aThen (aRound (fun s => s = st) (fun _ => 0) 0) Q) st) : aLoop P x Q st :=
  aLoop_of (fun s => s = st) (fun _ => 0) ⟨st, Weak.reflH st, rfl⟩ fun s e => by
    subst e
    exact h
def st27 : St := ⟨[2], 0, 0, [], []⟩
theorem start27 : startS exM27 = st27 := rfl
theorem st27_ok : (⟨.agg (eSt st27), [], 0⟩ : Res).Ok := ⟨fun id o h => (by cases h), by simp [AV.lt, AV.ltL]⟩
set_option maxRecDepth 100000 in
theorem pass27_A : ADet Tryz.prog 71 [.agg (eMod exM27), .agg (eSt st27), eI (-1)] ⟨.agg (eSt st27), [], 0⟩ := by
  refine adet_of_code mixedT Tryz.func71 rfl (by decide) Tryz.ntmps71 Tryz.results71 rfl (st27_ok) ?_
  have n00 : decide ((0 : Nat) < 0) = false := rfl
  have i01 : decide ((0 : Int) < ((0 : Nat) : Int)) = false := rfl
  (repeat' (first | simp (maxSteps := 5000000) (implicitDefEqProofs := false) only [ruA, ruB, aEv, aTake, aLoad, aField, aIndex, aLen, aBin, bin2, aUn, un1, aExtract, aConv, ASt.get, aget, ASt.put, aStore, aBox, aAppend, aBuildSlice, aMake, aBuild, aFill, oneParts, allC, aBinS, yv, aCells, oneC, oneCL, treeC, treeL, aLit, aDst, aSrc, appTab, Value.cells, Value.oneCell', envOf, aResL, aOne, ↓reduceIte, reduceCtorEq, forall_const, Nat.reduceLT, Nat.reduceEqDiff, Nat.reduceAdd, Nat.reduceMul, Nat.reduceSub, Nat.reduceLeDiff, Nat.reduceBEq, eq_self, implies_true, ne_eq, dref, dref1, dref2, aExecS, aStoreB, aTakes, aTakeE, aElder, aFrom, aFresh, isLoad, aBuildSlice1, frzs, frz1, ownIds, AV.frz, AV.frzL, frzEnv, AV.shift, AV.shiftL, aFieldV, aSliceW, aSliceO, aSlice, aSliceR, aSliceS, aBd, aMax, frzAVs, frzAV, frzTab, AObj.frz, aMM, aNilS, aMay, aNil, tyA_43, tyS_43, tyZ_43, tyF_32_9, tyA_30, tyS_30, tyE_30, tyK_30, tyK_3, tyA_97, tyS_97, tyZ_97, tyA_32, tyS_32, exM27, List.map_nil, List.length_nil] | (with_reducible refine aIf_split (fun _ => ?_) (fun _ => ?_)) | (with_reducible refine aSel_split (fun _ => ?_) (fun _ => ?_)) | (with_reducible refine aGd_split (fun _ => ?_) (fun _ => ?_))))
  refine aLoop_zero ?_
  (repeat' (first | simp (maxSteps := 5000000) (implicitDefEqProofs := false) only [ruA, ruB, aEv, aTake, aLoad, aField, aIndex, aLen, aBin, bin2, aUn, un1, aExtract, aConv, ASt.get, aget, ASt.put, aStore, aBox, aAppend, aBuildSlice, aMake, aBuild, aFill, oneParts, allC, aBinS, yv, aCells, oneC, oneCL, treeC, treeL, aLit, aDst, aSrc, appTab, Value.cells, Value.oneCell', envOf, aResL, aOne, ↓reduceIte, reduceCtorEq, forall_const, Nat.reduceLT, Nat.reduceEqDiff, Nat.reduceAdd, Nat.reduceMul, Nat.reduceSub, Nat.reduceLeDiff, Nat.reduceBEq, eq_self, implies_true, ne_eq, dref, dref1, dref2, aExecS, aStoreB, aTakes, aTakeE, aElder, aFrom, aFresh, isLoad, aBuildSlice1, frzs, frz1, ownIds, AV.frz, AV.frzL, frzEnv, AV.shift, AV.shiftL, aFieldV, aSliceW, aSliceO, aSlice, aSliceR, aSliceS, aBd, aMax, frzAVs, frzAV, frzTab, AObj.frz, aMM, aNilS, aMay, aNil, tyA_43, tyS_43, tyZ_43, tyF_32_9, tyA_30, tyS_30, tyE_30, tyK_30, tyK_3, tyA_97, tyS_97, tyZ_97, tyA_32, tyS_32, List.map_nil, List.length_nil, n00, i01] | (with_reducible refine aIf_split (fun _ => ?_) (fun _ => ?_)) | (with_reducible refine aSel_split (fun _ => ?_) (fun _ => ?_)) | (with_reducible refine aGd_split (fun _ => ?_) (fun _ => ?_)) | (with_reducible refine aDraw_quiet (by kernel_rfl) ?_)))
  all_goals exact gives_tree (by first | rfl | simp [AV.ren, AV.renL])
set_option maxRecDepth 100000 in
theorem begin27_A : ADet Tryz.prog 45 [.agg (eMod exM27)] ⟨.agg (eSt st27), [], 0⟩ := by
  refine adet_of_code mixedT Tryz.func45 rfl (by decide) Tryz.ntmps45 Tryz.results45 rfl (st27_ok) ?_
  have hS := start_A exM27 (by simp [exM27]) (by simp [exM27])
  rw [start27] at hS
  (repeat' (first | simp (maxSteps := 5000000) (implicitDefEqProofs := false) only [ruA, ruB, aEv, aTake, aLoad, aField, aIndex, aLen, aBin, bin2, aUn, un1, aExtract, aConv, ASt.get, aget, ASt.put, aStore, aBox, aAppend, aBuildSlice, aMake, aBuild, aFill, oneParts, allC, aBinS, yv, aCells, oneC, oneCL, treeC, treeL, aLit, aDst, aSrc, appTab, Value.cells, Value.oneCell', envOf, aResL, aOne, ↓reduceIte, reduceCtorEq, forall_const, Nat.reduceLT, Nat.reduceEqDiff, Nat.reduceAdd, Nat.reduceMul, Nat.reduceSub, Nat.reduceLeDiff, Nat.reduceBEq, eq_self, implies_true, ne_eq, dref, dref1, dref2, aExecS, aStoreB, aTakes, aTakeE, aElder, aFrom, aFresh, isLoad, aBuildSlice1, frzs, frz1, ownIds, AV.frz, AV.frzL, frzEnv, AV.shift, AV.shiftL, aFieldV, aSliceW, aSliceO, aSlice, aSliceR, aSliceS, aBd, aMax, frzAVs, frzAV, frzTab, AObj.frz, aMM, aNilS, aMay, aNil, tyA_43, tyS_43, tyZ_43, tyA_32, tyS_32] | (with_reducible refine aIf_split (fun _ => ?_) (fun _ => ?_)) | (with_reducible refine aSel_split (fun _ => ?_) (fun _ => ?_)) | (with_reducible refine aGd_split (fun _ => ?_) (fun _ => ?_))))
  refine aDraw_held [1] [0, 1] (.exec 2 (.exec 3 (.exec 4 .done))) (by kernel_rfl) (by simp [ATab.get_cons]) ?_
  (repeat' (first | simp (maxSteps := 5000000) (implicitDefEqProofs := false) only [ruA, ruB, aEv, aTake, aLoad, aField, aIndex, aLen, aBin, bin2, aUn, un1, aExtract, aConv, ASt.get, aget, ASt.put, aStore, aBox, aAppend, aBuildSlice, aMake, aBuild, aFill, oneParts, allC, aBinS, yv, aCells, oneC, oneCL, treeC, treeL, aLit, aDst, aSrc, appTab, Value.cells, Value.oneCell', envOf, aResL, aOne, ↓reduceIte, reduceCtorEq, forall_const, Nat.reduceLT, Nat.reduceEqDiff, Nat.reduceAdd, Nat.reduceMul, Nat.reduceSub, Nat.reduceLeDiff, Nat.reduceBEq, eq_self, implies_true, ne_eq, dref, dref1, dref2, aExecS, aStoreB, aTakes, aTakeE, aElder, aFrom, aFresh, isLoad, aBuildSlice1, frzs, frz1, ownIds, AV.frz, AV.frzL, frzEnv, AV.shift, AV.shiftL, aFieldV, aSliceW, aSliceO, aSlice, aSliceR, aSliceS, aBd, aMax, frzAVs, frzAV, frzTab, AObj.frz, aMM, aNilS, aMay, aNil, tyA_43, tyS_43, tyZ_43, tyA_32, tyS_32] | (with_reducible refine aIf_split (fun _ => ?_) (fun _ => ?_)) | (with_reducible refine aSel_split (fun _ => ?_) (fun _ => ?_)) | (with_reducible refine aGd_split (fun _ => ?_) (fun _ => ?_)) | (with_reducible refine aDraw_quiet (by kernel_rfl) ?_) | ((with_reducible apply callT); exact (hS); exact (.inl (by simp [roL, roA, treeL, treeC]))) | ((with_reducible apply callT (g := 71)); exact (pass27_A); exact (.inl (by simp [roL, roA, treeL, treeC])))))
  all_goals exact gives_tree (by first | rfl | simp [AV.ren, AV.renL])
set_option maxRecDepth 100000 in
set_option maxHeartbeats 32000000 in
theorem nodeBegin27_A : ADet Tryz.prog 22 [.agg (eMod exM27), sI [3]] ⟨.agg (eNd ex27), [], 0⟩ := by
  have hO := nodeOfC_A exM27 [3] st27 (by simp [exM27]) (by simp [exM27]) (by simp [st27]) (by simp) (by simp [st27, ok64]) (by simp [ok64]) (by simp [st27]) (by simp [st27])
  have e : nodeM exM27 [3] st27 = ex27 := by rw [← ex27_node, ex27_begin]; rfl
  rw [e] at hO
  have hok : (⟨.agg (eNd ex27), [], 0⟩ : Res).Ok := ⟨fun id o h => (by cases h), by simp [AV.lt, AV.ltL]⟩
  refine adet_of_code mixedT Tryz.func22 rfl (by decide) Tryz.ntmps22 Tryz.results22 rfl (hok) ?_
  (repeat' (first | simp (maxSteps := 5000000) (implicitDefEqProofs := false) only [ruA, ruB, aEv, aTake, aLoad, aField, aIndex, aLen, aBin, bin2, aUn, un1, aExtract, aConv, ASt.get, aget, ASt.put, aStore, aBox, aAppend, aBuildSlice, aMake, aBuild, aFill, oneParts, allC, aBinS, yv, aCells, oneC, oneCL, treeC, treeL, aLit, aDst, aSrc, appTab, Value.cells, Value.oneCell', envOf, aResL, aOne, ↓reduceIte, reduceCtorEq, forall_const, Nat.reduceLT, Nat.reduceEqDiff, Nat.reduceAdd, Nat.reduceMul, Nat.reduceSub, Nat.reduceLeDiff, Nat.reduceBEq, eq_self, implies_true, ne_eq, dref, dref1, dref2, aExecS, aStoreB, aTakes, aTakeE, aElder, aFrom, aFresh, isLoad, aBuildSlice1, frzs, frz1, ownIds, AV.frz, AV.frzL, frzEnv, AV.shift, AV.shiftL, aFieldV, aSliceW, aSliceO, aSlice, aSliceR, aSliceS, aBd, aMax, frzAVs, frzAV, frzTab, AObj.frz, aMM, aNilS, aMay, aNil, tyA_38, tyS_38, tyZ_38, tyA_32, tyS_32] | (with_reducible refine aIf_split (fun _ => ?_) (fun _ => ?_)) | (with_reducible refine aSel_split (fun _ => ?_) (fun _ => ?_)) | (with_reducible refine aGd_split (fun _ => ?_) (fun _ => ?_))))
  refine aDraw_held [1] [0, 1, 2] (.exec 3 (.exec 4 (.exec 5 .done))) (by kernel_rfl) (by simp [ATab.get_cons]) ?_
  (repeat' (first | simp (maxSteps := 5000000) (implicitDefEqProofs := false) only [ruA, ruB, aEv, aTake, aLoad, aField, aIndex, aLen, aBin, bin2, aUn, un1, aExtract, aConv, ASt.get, aget, ASt.put, aStore, aBox, aAppend, aBuildSlice, aMake, aBuild, aFill, oneParts, allC, aBinS, yv, aCells, oneC, oneCL, treeC, treeL, aLit, aDst, aSrc, appTab, Value.cells, Value.oneCell', envOf, aResL, aOne, ↓reduceIte, reduceCtorEq, forall_const, Nat.reduceLT, Nat.reduceEqDiff, Nat.reduceAdd, Nat.reduceMul, Nat.reduceSub, Nat.reduceLeDiff, Nat.reduceBEq, eq_self, implies_true, ne_eq, dref, dref1, dref2, aExecS, aStoreB, aTakes, aTakeE, aElder, aFrom, aFresh, isLoad, aBuildSlice1, frzs, frz1, ownIds, AV.frz, AV.frzL, frzEnv, AV.shift, AV.shiftL, aFieldV, aSliceW, aSliceO, aSlice, aSliceR, aSliceS, aBd, aMax, frzAVs, frzAV, frzTab, AObj.frz, aMM, aNilS, aMay, aNil, tyA_38, tyS_38, tyZ_38, tyA_32, tyS_32] | (with_reducible refine aIf_split (fun _ => ?_) (fun _ => ?_)) | (with_reducible refine aSel_split (fun _ => ?_) (fun _ => ?_)) | (with_reducible refine aGd_split (fun _ => ?_) (fun _ => ?_)) | (with_reducible refine aDraw_quiet (by kernel_rfl) ?_) | ((with_reducible apply callT (g := 45)); exact (begin27_A); exact (.inl (by simp [roL, roA, treeL, treeC]))) | ((with_reducible apply callT); exact (hO); exact (.inl (by simp [roL, roA, treeL, treeC]))) | (with_reducible apply And.intro)))
  all_goals exact gives_tree (by first | rfl | simp [AV.ren, AV.renL])
set_option maxRecDepth 100000 in
set_option maxHeartbeats 8000000 in
theorem awake27b_A : ADet Tryz.prog 7 [] (val (.bool true)) := by
  refine adet_of_code mixedT Tryz.func7 rfl (by decide) Tryz.ntmps7 Tryz.results7 rfl (val_ok _) ?_
  have hB := nodeBegin27_A
  have hC : ADet Tryz.prog 23 [.agg (eMod exM27), sI [3], .agg (eNd ex27)] (val (.bool true)) := (nodeCheck_A exM27 [3] ex27 (by simp [exM27]) (by simp [exM27]) (by simp [exM27]) (by simp [ex27]) (by simp [ex27]) (by simp) (by simp [ok64]) (by simp [ex27]) (by simp [ex27])).mono fun R ⟨b, h1, h2⟩ => by rw [h1, h2.2 ex27_P]
  have hB2 := hB.fits (args := [.agg [.sl 1 [[eS ⟨#[97]⟩]], .sl 1 [[eI 2]], .c (.slice none 0 0), .c (.slice none 0 0), .c (.slice none 0 0), .c (.slice none 0 0), .c (.slice none 0 0), .c (.slice none 0 0), .c (.slice none 0 0), .c (.slice none 0 0)], .sl 1 [[eI 3]]]) ⟨.agg ⟨.refl _, .refl _, .nil 1, .nil 2, .nil 2, .nil 5, .nil 3, .nil 5, .nil 2, .nil 2, trivial⟩, .one (.refl _), trivial⟩
  have hC2 := hC.fits (args := [.agg [.sl 1 [[eS ⟨#[97]⟩]], .sl 1 [[eI 2]], .c (.slice none 0 0), .c (.slice none 0 0), .c (.slice none 0 0), .c (.slice none 0 0), .c (.slice none 0 0), .c (.slice none 0 0), .c (.slice none 0 0), .c (.slice none 0 0)], .sl 1 [[eI 3]], .agg (eNd ex27)]) ⟨.agg ⟨.refl _, .refl _, .nil 1, .nil 2, .nil 2, .nil 5, .nil 3, .nil 5, .nil 2, .nil 2, trivial⟩, .one (.refl _), .one (.refl _), trivial⟩
  (repeat' (first | simp (maxSteps := 5000000) (implicitDefEqProofs := false) only [ruA, ruB, aEv, aTake, aLoad, aField, aIndex, aLen, aBin, bin2, aUn, un1, aExtract, aConv, ASt.get, aget, ASt.put, aStore, aBox, aAppend, aBuildSlice, aMake, aBuild, aFill, oneParts, allC, aBinS, yv, aCells, oneC, oneCL, treeC, treeL, aLit, aDst, aSrc, appTab, Value.cells, Value.oneCell', envOf, aResL, aOne, ↓reduceIte, reduceCtorEq, forall_const, Nat.reduceLT, Nat.reduceEqDiff, Nat.reduceAdd, Nat.reduceMul, Nat.reduceSub, Nat.reduceLeDiff, Nat.reduceBEq, eq_self, implies_true, ne_eq, dref, dref1, dref2, aExecS, aStoreB, aTakes, aTakeE, aElder, aFrom, aFresh, isLoad, aBuildSlice1, frzs, frz1, ownIds, AV.frz, AV.frzL, frzEnv, AV.shift, AV.shiftL, aFieldV, aSliceW, aSliceO, aSlice, aSliceR, aSliceS, aBd, aMax, frzAVs, frzAV, frzTab, AObj.frz, aMM, aNilS, aMay, aNil, tyR_22, tyR_23, tyB_32, tyZ_32, tyS_32, tyA_32, tyZ_38, tyS_38, tyF_38_0, tyF_36_0, tyA_33, tyS_33, tyE_33, tyK_33, tyK_3, tyF_63_0, tyA_3, tyS_3, tyA_38] | (with_reducible refine aIf_split (fun _ => ?_) (fun _ => ?_)) | (with_reducible refine aSel_split (fun _ => ?_) (fun _ => ?_)) | (with_reducible refine aGd_split (fun _ => ?_) (fun _ => ?_))))
  repeat (refine ⟨rfl, ?_⟩)
  refine callZ [0, 1, 3] (R := ⟨.agg (eNd ex27), [], 0⟩) ?_ ?_ ?_
  · simp (maxSteps := 5000000) (implicitDefEqProofs := false) only [ruA, ruB, aEv, aTake, aLoad, aField, aIndex, aLen, aBin, bin2, aUn, un1, aExtract, aConv, ASt.get, aget, ASt.put, aStore, aBox, aAppend, aBuildSlice, aMake, aBuild, aFill, oneParts, allC, aBinS, yv, aCells, oneC, oneCL, treeC, treeL, aLit, aDst, aSrc, appTab, Value.cells, Value.oneCell', envOf, aResL, aOne, ↓reduceIte, reduceCtorEq, forall_const, Nat.reduceLT, Nat.reduceEqDiff, Nat.reduceAdd, Nat.reduceMul, Nat.reduceSub, Nat.reduceLeDiff, Nat.reduceBEq, eq_self, implies_true, ne_eq, dref, dref1, dref2, aExecS, aStoreB, aTakes, aTakeE, aElder, aFrom, aFresh, isLoad, aBuildSlice1, frzs, frz1, ownIds, AV.frz, AV.frzL, frzEnv, AV.shift, AV.shiftL, aFieldV, aSliceW, aSliceO, aSlice, aSliceR, aSliceS, aBd, aMax, frzAVs, frzAV, frzTab, AObj.frz, aMM, aNilS, aMay, aNil, tyR_22, tyR_23, tyB_32, tyZ_32, tyS_32, tyA_32, tyZ_38, tyS_38, tyF_38_0, tyF_36_0, tyA_33, tyS_33, tyE_33, tyK_33, tyK_3, tyF_63_0, tyA_3, tyS_3, tyA_38]
    exact hB2
  · simp (maxSteps := 5000000) (implicitDefEqProofs := false) only [ruA, ruB, aEv, aTake, aLoad, aField, aIndex, aLen, aBin, bin2, aUn, un1, aExtract, aConv, ASt.get, aget, ASt.put, aStore, aBox, aAppend, aBuildSlice, aMake, aBuild, aFill, oneParts, allC, aBinS, yv, aCells, oneC, oneCL, treeC, treeL, aLit, aDst, aSrc, appTab, Value.cells, Value.oneCell', envOf, aResL, aOne, ↓reduceIte, reduceCtorEq, forall_const, Nat.reduceLT, Nat.reduceEqDiff, Nat.reduceAdd, Nat.reduceMul, Nat.reduceSub, Nat.reduceLeDiff, Nat.reduceBEq, eq_self, implies_true, ne_eq, dref, dref1, dref2, aExecS, aStoreB, aTakes, aTakeE, aElder, aFrom, aFresh, isLoad, aBuildSlice1, frzs, frz1, ownIds, AV.frz, AV.frzL, frzEnv, AV.shift, AV.shiftL, aFieldV, aSliceW, aSliceO, aSlice, aSliceR, aSliceS, aBd, aMax, frzAVs, frzAV, frzTab, AObj.frz, aMM, aNilS, aMay, aNil, tyR_22, tyR_23, tyB_32, tyZ_32, tyS_32, tyA_32, tyZ_38, tyS_38, tyF_38_0, tyF_36_0, tyA_33, tyS_33, tyE_33, tyK_33, tyK_3, tyF_63_0, tyA_3, tyS_3, tyA_38]
    left
    simp [roL, roA, treeL, treeC]
  · have b2 : (((2 : Nat) : Int) == 2) = true := by decide
    have b1 : ((1 : Int) == 1) = true := by decide
    have b0 : (0 : Int) < ((2 : Nat) : Int) := by decide
    have e0 : ([[eI 1, eI (-1)], [eI 0, eI 0]] : List (List AV))[Int.toNat 0]?.getD [] = [eI 1, eI (-1)] := rfl
    have hsh : ∀ k, ATab.shift k ([] : ATab) = [] := fun _ => rfl
    (repeat' (first | simp (maxSteps := 5000000) (implicitDefEqProofs := false) only [ruA, ruB, aEv, aTake, aLoad, aField, aIndex, aLen, aBin, bin2, aUn, un1, aExtract, aConv, ASt.get, aget, ASt.put, aStore, aBox, aAppend, aBuildSlice, aMake, aBuild, aFill, oneParts, allC, aBinS, yv, aCells, oneC, oneCL, treeC, treeL, aLit, aDst, aSrc, appTab, Value.cells, Value.oneCell', envOf, aResL, aOne, ↓reduceIte, reduceCtorEq, forall_const, Nat.reduceLT, Nat.reduceEqDiff, Nat.reduceAdd, Nat.reduceMul, Nat.reduceSub, Nat.reduceLeDiff, Nat.reduceBEq, eq_self, implies_true, ne_eq, dref, dref1, dref2, aExecS, aStoreB, aTakes, aTakeE, aElder, aFrom, aFresh, isLoad, aBuildSlice1, frzs, frz1, ownIds, AV.frz, AV.frzL, frzEnv, AV.shift, AV.shiftL, aFieldV, aSliceW, aSliceO, aSlice, aSliceR, aSliceS, aBd, aMax, frzAVs, frzAV, frzTab, AObj.frz, aMM, aNilS, aMay, aNil, tyR_22, tyR_23, tyB_32, tyZ_32, tyS_32, tyA_32, tyZ_38, tyS_38, tyF_38_0, tyF_36_0, tyA_33, tyS_33, tyE_33, tyK_33, tyK_3, tyF_63_0, tyA_3, tyS_3, tyA_38, ex27, eCls, b2, b1, b0, e0, hsh, List.nil_append] | (with_reducible refine aIf_split (fun _ => ?_) (fun _ => ?_)) | (with_reducible refine aSel_split (fun _ => ?_) (fun _ => ?_)) | (with_reducible refine aGd_split (fun _ => ?_) (fun _ => ?_)) | (with_reducible refine aDraw_quiet (by kernel_rfl) ?_) | (with_reducible apply And.intro)))
    all_goals first
      | rfl
      | skip
    refine callV (v := .bool true) (by simp (maxSteps := 5000000) (implicitDefEqProofs := false) only [ruA, ruB, aEv, aTake, aLoad, aField, aIndex, aLen, aBin, bin2, aUn, un1, aExtract, aConv, ASt.get, aget, ASt.put, aStore, aBox, aAppend, aBuildSlice, aMake, aBuild, aFill, oneParts, allC, aBinS, yv, aCells, oneC, oneCL, treeC, treeL, aLit, aDst, aSrc, appTab, Value.cells, Value.oneCell', envOf, aResL, aOne, ↓reduceIte, reduceCtorEq, forall_const, Nat.reduceLT, Nat.reduceEqDiff, Nat.reduceAdd, Nat.reduceMul, Nat.reduceSub, Nat.reduceLeDiff, Nat.reduceBEq, eq_self, implies_true, ne_eq, dref, dref1, dref2, aExecS, aStoreB, aTakes, aTakeE, aElder, aFrom, aFresh, isLoad, aBuildSlice1, frzs, frz1, ownIds, AV.frz, AV.frzL, frzEnv, AV.shift, AV.shiftL, aFieldV, aSliceW, aSliceO, aSlice, aSliceR, aSliceS, aBd, aMax, frzAVs, frzAV, frzTab, AObj.frz, aMM, aNilS, aMay, aNil, tyR_22, tyR_23, tyB_32, tyZ_32, tyS_32, tyA_32, tyZ_38, tyS_38, tyF_38_0, tyF_36_0, tyA_33, tyS_33, tyE_33, tyK_33, tyK_3, tyF_63_0, tyA_3, tyS_3, tyA_38]; exact hC2) ?_
    (repeat' (first | simp (maxSteps := 5000000) (implicitDefEqProofs := false) only [ruA, ruB, aEv, aTake, aLoad, aField, aIndex, aLen, aBin, bin2, aUn, un1, aExtract, aConv, ASt.get, aget, ASt.put, aStore, aBox, aAppend, aBuildSlice, aMake, aBuild, aFill, oneParts, allC, aBinS, yv, aCells, oneC, oneCL, treeC, treeL, aLit, aDst, aSrc, appTab, Value.cells, Value.oneCell', envOf, aResL, aOne, ↓reduceIte, reduceCtorEq, forall_const, Nat.reduceLT, Nat.reduceEqDiff, Nat.reduceAdd, Nat.reduceMul, Nat.reduceSub, Nat.reduceLeDiff, Nat.reduceBEq, eq_self, implies_true, ne_eq, dref, dref1, dref2, aExecS, aStoreB, aTakes, aTakeE, aElder, aFrom, aFresh, isLoad, aBuildSlice1, frzs, frz1, ownIds, AV.frz, AV.frzL, frzEnv, AV.shift, AV.shiftL, aFieldV, aSliceW, aSliceO, aSlice, aSliceR, aSliceS, aBd, aMax, frzAVs, frzAV, frzTab, AObj.frz, aMM, aNilS, aMay, aNil, tyR_22, tyR_23, tyB_32, tyZ_32, tyS_32, tyA_32, tyZ_38, tyS_38, tyF_38_0, tyF_36_0, tyA_33, tyS_33, tyE_33, tyK_33, tyK_3, tyF_63_0, tyA_3, tyS_3, tyA_38] | (with_reducible refine aIf_split (fun _ => ?_) (fun _ => ?_)) | (with_reducible refine aSel_split (fun _ => ?_) (fun _ => ?_)) | (with_reducible refine aGd_split (fun _ => ?_) (fun _ => ?_)) | (with_reducible refine aDraw_quiet (by kernel_rfl) ?_)))
end
section
open Go.RowKit
set_option maxRecDepth 100000 in
set_option maxHeartbeats 16000000 in
theorem nodeCheckR_A (m : Mod) (c : List Int) (n : Nd) (he : m.events.length ≤ 10) (hm : ∀ e ∈ m.events, e.times ≤ 10 ∧ e.sets.length ≤ 10) (ha : m.attrs.length ≤ 1000000) (h1 : n.z.cls.length ≤ 40) (h2 : n.z.gaps.length ≤ 40) (h3 : c.length ≤ 100000) (hc : ∀ x ∈ c, ok64 x) (hat : ∀ x ∈ n.z.cls, ok64 x.attrs) (h5 : n.did.length ≤ 1000000) (h4 : n.cnt.length ≤ 1000000) (hop : ok64 n.opn) (hdo : ok64 n.don) (hdid : ∀ x ∈ n.did, ok64 x) : ARel Tryz.prog 9 [.agg (eMod m), sI c, .agg (eNd n)] fun R => ∃ b, R = val (.bool b) ∧ (b = true ↔ NodeP m c n) := by
  refine arel_of_code mixedT Tryz.func9 rfl (by decide) Tryz.ntmps9 Tryz.results9 rfl ?_
  have hSt := statusR_A n h5 h4
  have hS := checkR_A m (statZ m n) (by omega) hop hdo hdid
  have hL := left15_A m n.cnt he hm h4
  have hrep : List.replicate m.attrs.length [eI 0] = (List.replicate m.attrs.length 0).map fun n => [eI n] := by simp
  obtain ⟨t, ht, hZ⟩ := adet_iff (check22_A n.z (m.attrs.length : Int) c (leftN m n.cnt m.events.length) h1 h2 h3 hc (capV_all _) hat)
  unfold NodeP
  rw [← ht]
  clear ht
  generalize leftN m n.cnt m.events.length = L at *
  cases hb : chkS m (statZ m n) with
  | true =>
    rw [hb] at hS
    (repeat' (first | simp (maxSteps := 5000000) (implicitDefEqProofs := false) only [ruA, ruB, aEv, aTake, aLoad, aField, aLen, ASt.get, aget, ASt.put, aStore, aBox, aMake, aCells, oneC, oneCL, Value.cells, Value.oneCell', envOf, ↓reduceIte, reduceCtorEq, Nat.reduceLT, Nat.reduceEqDiff, Nat.reduceAdd, Nat.reduceLeDiff, eq_self, ne_eq, AV.shift, AV.shiftL, tyA_38, tyS_38, tyZ_43, tyS_43, tyF_32_0, tyA_22, tyS_22, tyE_22, tyR_23, tyZ_2, tyF_43_0, tyS_23] | (with_reducible refine aIf_split (fun _ => ?_) (fun _ => ?_)) | (with_reducible refine aSel_split (fun _ => ?_) (fun _ => ?_)) | (with_reducible refine aGd_split (fun _ => ?_) (fun _ => ?_)) | (with_reducible refine aDraw_quiet (by kernel_rfl) ?_) | ((with_reducible apply callT); exact (hSt); exact (.inl (by simp [roL, roA, treeL, treeC])))))
    refine ⟨⟨by omega, by omega⟩, ?_⟩
    (repeat' (first | simp (maxSteps := 5000000) (implicitDefEqProofs := false) only [ruA, ruB, aEv, aTake, aLoad, aField, aLen, ASt.get, aget, ASt.put, aResL, aOne, ↓reduceIte, reduceCtorEq, Nat.reduceLT, Nat.reduceEqDiff, Nat.reduceAdd, Nat.reduceLeDiff, eq_self, ne_eq, dref, dref1, tyS_43, tyF_32_0, tyA_22, tyS_22, tyE_22, tyA_32, tyS_32, tyA_43, tyF_38_0, tyA_36, tyS_36, tyF_38_4, tyA_34, tyS_34, hrep] | (with_reducible refine aIf_split (fun _ => ?_) (fun _ => ?_)) | (with_reducible refine aSel_split (fun _ => ?_) (fun _ => ?_)) | (with_reducible refine aGd_split (fun _ => ?_) (fun _ => ?_)) | (with_reducible refine aDraw_quiet (by kernel_rfl) ?_) | ((with_reducible apply callV); exact (hS)) | ((with_reducible apply callD); exact (hS)) | ((with_reducible apply callV); exact (hL)) | ((with_reducible apply callD); exact (hL)) | ((with_reducible apply callV); exact (hZ)) | ((with_reducible apply callD); exact (hZ))))
    all_goals exact retV ⟨t, rfl, by simp⟩
  | false =>
    rw [hb] at hS
    (repeat' (first | simp (maxSteps := 5000000) (implicitDefEqProofs := false) only [ruA, ruB, aEv, aTake, aLoad, aField, aLen, ASt.get, aget, ASt.put, aStore, aBox, aMake, aCells, oneC, oneCL, Value.cells, Value.oneCell', envOf, ↓reduceIte, reduceCtorEq, Nat.reduceLT, Nat.reduceEqDiff, Nat.reduceAdd, Nat.reduceLeDiff, eq_self, ne_eq, AV.shift, AV.shiftL, tyA_38, tyS_38, tyZ_43, tyS_43, tyF_32_0, tyA_22, tyS_22, tyE_22, tyR_23, tyZ_2, tyF_43_0, tyS_23] | (with_reducible refine aIf_split (fun _ => ?_) (fun _ => ?_)) | (with_reducible refine aSel_split (fun _ => ?_) (fun _ => ?_)) | (with_reducible refine aGd_split (fun _ => ?_) (fun _ => ?_)) | (with_reducible refine aDraw_quiet (by kernel_rfl) ?_) | ((with_reducible apply callT); exact (hSt); exact (.inl (by simp [roL, roA, treeL, treeC])))))
    refine ⟨⟨by omega, by omega⟩, ?_⟩
    (repeat' (first | simp (maxSteps := 5000000) (implicitDefEqProofs := false) only [ruA, ruB, aEv, aTake, aLoad, ASt.get, aget, ASt.put, aResL, aOne, ↓reduceIte, reduceCtorEq, Nat.reduceLT, Nat.reduceEqDiff, Nat.reduceAdd, eq_self, dref, dref1, tyS_43, tyA_32, tyS_32, tyA_43, hrep] | (with_reducible refine aIf_split (fun _ => ?_) (fun _ => ?_)) | (with_reducible refine aSel_split (fun _ => ?_) (fun _ => ?_)) | (with_reducible refine aGd_split (fun _ => ?_) (fun _ => ?_)) | (with_reducible refine aDraw_quiet (by kernel_rfl) ?_) | ((with_reducible apply callV); exact (hS)) | ((with_reducible apply callD); exact (hS)) | ((with_reducible apply callV); exact (hL)) | ((with_reducible apply callD); exact (hL)) | ((with_reducible apply callV); exact (hZ)) | ((with_reducible apply callD); exact (hZ))))
    all_goals exact retV ⟨false, rfl, by simp⟩
set_option maxRecDepth 100000 in
theorem great27N_A (n : Nd) : ARel Tryz.prog 5 [.agg (eNd n)] fun R => ∃ b, R = val (.bool b) ∧ (b = false → n.z.cls.length ≤ 40 ∧ n.z.gaps.length ≤ 40 ∧ n.did.length ≤ 20 ∧ n.cnt.length ≤ 20) := by
  refine arel_of_code mixedT Tryz.func5 rfl (by decide) Tryz.ntmps5 Tryz.results5 rfl ?_
  (repeat' (first | simp (maxSteps := 5000000) (implicitDefEqProofs := false) only [ruA, ruB, aEv, aTake, aLoad, aField, ASt.get, aget, ASt.put, aBox, aCells, oneC, oneCL, Value.oneCell', envOf, ↓reduceIte, Nat.reduceLT, Nat.reduceEqDiff, Nat.reduceAdd, Nat.reduceLeDiff, eq_self, tyF_38_0, tyA_36, tyS_36] | (with_reducible refine aIf_split (fun _ => ?_) (fun _ => ?_)) | (with_reducible refine aSel_split (fun _ => ?_) (fun _ => ?_)) | (with_reducible refine aGd_split (fun _ => ?_) (fun _ => ?_))))
  refine callPB (greatZ_A n.z) fun b hb => ?_
  cases b with
  | true =>
    (repeat' (first | simp (maxSteps := 5000000) (implicitDefEqProofs := false) only [ruA, ruB, aEv, ASt.get, aget, ASt.put, aResL, aOne, ↓reduceIte, Nat.reduceLT, Nat.reduceEqDiff, eq_self] | (with_reducible refine aIf_split (fun _ => ?_) (fun _ => ?_)) | (with_reducible refine aSel_split (fun _ => ?_) (fun _ => ?_)) | (with_reducible refine aGd_split (fun _ => ?_) (fun _ => ?_)) | (with_reducible refine aDraw_quiet (by kernel_rfl) ?_)))
    all_goals exact retV ⟨true, rfl, by simp⟩
  | false =>
    obtain ⟨g1, g2⟩ := hb rfl
    (repeat' (first | simp (maxSteps := 5000000) (implicitDefEqProofs := false) only [ruA, ruB, aEv, aTake, aLoad, aField, aLen, aBin, bin2, ASt.get, aget, ASt.put, aResL, aOne, ↓reduceIte, reduceCtorEq, Nat.reduceLT, Nat.reduceEqDiff, Nat.reduceAdd, Nat.reduceLeDiff, eq_self, ne_eq, tyF_38_3, tyA_34, tyS_34, tyE_34, tyF_38_4] | (with_reducible refine aIf_split (fun _ => ?_) (fun _ => ?_)) | (with_reducible refine aSel_split (fun _ => ?_) (fun _ => ?_)) | (with_reducible refine aGd_split (fun _ => ?_) (fun _ => ?_)) | (with_reducible refine aDraw_quiet (by kernel_rfl) ?_)))
    all_goals with_reducible refine retV ⟨_, rfl, fun h => ?_⟩
    all_goals first | (cases h; done) | (simp_all; omega)
set_option maxRecDepth 100000 in
set_option maxHeartbeats 32000000 in
theorem nodeSamples_A (m : Mod) (c : List Int) (n : Nd) (hle : m.events.length ≤ 9223372036854775807) (hco : condOk m) (hp : ∀ p ∈ m.stages, ok64 p.2) (hc : ∀ x ∈ c, ok64 x) (hat : ∀ x ∈ n.z.cls, ok64 x.attrs) (hop : ok64 n.opn) (hdo : ok64 n.don) (hdid : ∀ x ∈ n.did, ok64 x) : ADet Tryz.prog 3 [.agg (eMod m), sI c, .agg (eNd n)] (val (.bool true)) := by
  refine adet_of_sc Tryz.func3 rfl (by decide) Tryz.ntmps3 Tryz.results3 rfl (val_ok _) ?_
  refine sc_cut (fun st => st = ⟨77, [(1, sI c), (3, .op 0 0 0), (5, .op 1 0 0)], [(0, some (.box 32 (eMod m))), (1, some (.box 38 (eNd n)))], 2⟩) (sc_of mixedT ?_) ?_
  · (repeat' (first | simp (maxSteps := 5000000) (implicitDefEqProofs := false) only [ruA, ruB, aEv, ASt.get, aget, ASt.put, aBox, aCells, oneC, oneCL, Value.oneCell', envOf, ↓reduceIte, Nat.reduceLT, Nat.reduceEqDiff, Nat.reduceAdd, eq_self] | (with_reducible refine aIf_split (fun _ => ?_) (fun _ => ?_)) | (with_reducible refine aSel_split (fun _ => ?_) (fun _ => ?_)) | (with_reducible refine aGd_split (fun _ => ?_) (fun _ => ?_)) | (with_reducible refine aDraw_quiet (by kernel_rfl) ?_)))
    all_goals exact aTo_mk (weak_cut1 (by (first | ((simp only [envIn, tabIn, envLt, tabLt, AObj.lt, AV.lt, AV.ltL, ruW, ASt.get, aget, ↓reduceIte, reduceCtorEq, Nat.reduceLT, Nat.reduceEqDiff, eq_self]) <;> (repeat' apply And.intro) <;> first | (rw [wrapK (by omega)]; done) | (simp; done) | omega) | fail))) rfl
  rintro _ rfl
  refine sc_cut (fun st => ((Fit m ∧ ∀ e ∈ m.events, e.times ≤ 10 ∧ e.sets.length ≤ 10) ∧ (n.z.cls.length ≤ 40 ∧ n.z.gaps.length ≤ 40 ∧ n.did.length ≤ 20 ∧ n.cnt.length ≤ 20) ∧ c.length ≤ 20 ∧ Chk m) ∧ st = ⟨77, [(1, sI c), (3, .op 0 0 0), (5, .op 1 0 0)], [(0, some (.box 32 (eMod m))), (1, some (.box 38 (eNd n)))], 2⟩) (sc_of mixedT ?_) ?_
  · (repeat' (first | simp (maxSteps := 5000000) (implicitDefEqProofs := false) only [ruA, ruB, aEv, aTake, aLoad, ASt.get, aget, ASt.put, ↓reduceIte, Nat.reduceLT, Nat.reduceEqDiff, Nat.reduceAdd, eq_self, tyA_32, tyS_32] | (with_reducible refine aIf_split (fun _ => ?_) (fun _ => ?_)) | (with_reducible refine aSel_split (fun _ => ?_) (fun _ => ?_)) | (with_reducible refine aGd_split (fun _ => ?_) (fun _ => ?_))))
    refine callPB (wild_A m hle) fun b hb => ?_
    cases b with
    | true => (repeat' (first | simp (maxSteps := 5000000) (implicitDefEqProofs := false) only [ruA, ruB, aEv, ASt.get, aget, ASt.put, aResL, aOne, ↓reduceIte, Nat.reduceLT, Nat.reduceEqDiff, eq_self] | (with_reducible refine aIf_split (fun _ => ?_) (fun _ => ?_)) | (with_reducible refine aSel_split (fun _ => ?_) (fun _ => ?_)) | (with_reducible refine aGd_split (fun _ => ?_) (fun _ => ?_)) | (with_reducible refine aDraw_quiet (by kernel_rfl) ?_) | ((with_reducible apply callV (g := 7)); exact (awake27b_A)) | ((with_reducible apply callD (g := 7)); exact (awake27b_A))))
    | false =>
      obtain ⟨hf, hm⟩ := hb rfl
      (repeat' (first | simp (maxSteps := 5000000) (implicitDefEqProofs := false) only [ruA, ruB, aEv, aTake, aLoad, ASt.get, aget, ASt.put, ↓reduceIte, Nat.reduceLT, Nat.reduceEqDiff, Nat.reduceAdd, eq_self, tyA_38, tyS_38] | (with_reducible refine aIf_split (fun _ => ?_) (fun _ => ?_)) | (with_reducible refine aSel_split (fun _ => ?_) (fun _ => ?_)) | (with_reducible refine aGd_split (fun _ => ?_) (fun _ => ?_))))
      refine callPB (great27N_A n) fun b2 hb2 => ?_
      cases b2 with
      | true => (repeat' (first | simp (maxSteps := 5000000) (implicitDefEqProofs := false) only [ruA, ruB, aEv, ASt.get, aget, ASt.put, aResL, aOne, ↓reduceIte, Nat.reduceLT, Nat.reduceEqDiff, eq_self] | (with_reducible refine aIf_split (fun _ => ?_) (fun _ => ?_)) | (with_reducible refine aSel_split (fun _ => ?_) (fun _ => ?_)) | (with_reducible refine aGd_split (fun _ => ?_) (fun _ => ?_)) | (with_reducible refine aDraw_quiet (by kernel_rfl) ?_) | ((with_reducible apply callV (g := 7)); exact (awake27b_A)) | ((with_reducible apply callD (g := 7)); exact (awake27b_A))))
      | false =>
        have hg := hb2 rfl
        by_cases hcl : c.length ≤ 20
        · have d1 : decide (20 < (c.length : Int)) = false := by simp only [decide_eq_false_iff_not]; omega
          have d2 : decide (20 < c.length) = false := by simp only [decide_eq_false_iff_not]; omega
          (repeat' (first | simp (maxSteps := 5000000) (implicitDefEqProofs := false) only [ruA, ruB, aEv, aTake, aLoad, aLen, aBin, bin2, ASt.get, aget, ASt.put, ↓reduceIte, Nat.reduceLT, Nat.reduceEqDiff, Nat.reduceAdd, eq_self, ne_eq, tyA_32, tyS_32, tyE_23, d1] | (with_reducible refine aIf_split (fun _ => ?_) (fun _ => ?_)) | (with_reducible refine aSel_split (fun _ => ?_) (fun _ => ?_)) | (with_reducible refine aGd_split (fun _ => ?_) (fun _ => ?_))))
          refine callPB (check13_A m hf hp) fun b3 hb3 => ?_
          cases b3 with
          | false => (repeat' (first | simp (maxSteps := 5000000) (implicitDefEqProofs := false) only [ruA, ruB, aEv, aUn, un1, ASt.get, aget, ASt.put, aResL, aOne, ↓reduceIte, Nat.reduceLT, Nat.reduceEqDiff, eq_self] | (with_reducible refine aIf_split (fun _ => ?_) (fun _ => ?_)) | (with_reducible refine aSel_split (fun _ => ?_) (fun _ => ?_)) | (with_reducible refine aGd_split (fun _ => ?_) (fun _ => ?_)) | (with_reducible refine aDraw_quiet (by kernel_rfl) ?_) | ((with_reducible apply callV (g := 7)); exact (awake27b_A)) | ((with_reducible apply callD (g := 7)); exact (awake27b_A))))
          | true =>
            (repeat' (first | simp (maxSteps := 5000000) (implicitDefEqProofs := false) only [ruA, ruB, aEv, aUn, un1, ASt.get, aget, ASt.put, ↓reduceIte, Nat.reduceLT, Nat.reduceEqDiff, eq_self] | (with_reducible refine aIf_split (fun _ => ?_) (fun _ => ?_)) | (with_reducible refine aSel_split (fun _ => ?_) (fun _ => ?_)) | (with_reducible refine aGd_split (fun _ => ?_) (fun _ => ?_)) | (with_reducible refine aDraw_quiet (by kernel_rfl) ?_)))
            all_goals exact aTo_mk (weak_cut1 (by (first | ((simp only [envIn, tabIn, envLt, tabLt, AObj.lt, AV.lt, AV.ltL, ruW, ASt.get, aget, ↓reduceIte, Nat.reduceLT, Nat.reduceEqDiff, eq_self]) <;> (repeat' apply And.intro) <;> first | (rw [wrapK (by omega)]; done) | (simp; done) | omega) | fail))) ⟨⟨⟨hf, hm⟩, hg, hcl, hb3 rfl⟩, rfl⟩
        · have d1 : decide (20 < (c.length : Int)) = true := by simp only [decide_eq_true_eq]; omega
          have d2 : decide (20 < c.length) = true := by simp only [decide_eq_true_eq]; omega
          (repeat' (first | simp (maxSteps := 5000000) (implicitDefEqProofs := false) only [ruA, ruB, aEv, aLen, aBin, bin2, ASt.get, aget, ASt.put, aResL, aOne, ↓reduceIte, Nat.reduceLT, Nat.reduceEqDiff, eq_self, ne_eq, tyE_23, d1] | (with_reducible refine aIf_split (fun _ => ?_) (fun _ => ?_)) | (with_reducible refine aSel_split (fun _ => ?_) (fun _ => ?_)) | (with_reducible refine aGd_split (fun _ => ?_) (fun _ => ?_)) | (with_reducible refine aDraw_quiet (by kernel_rfl) ?_) | ((with_reducible apply callV (g := 7)); exact (awake27b_A)) | ((with_reducible apply callD (g := 7)); exact (awake27b_A))))
  rintro _ ⟨⟨⟨hf, hm⟩, ⟨g1, g2, g3, g4⟩, hcl, hk⟩, rfl⟩
  refine sc_cut (fun st => (∀ x ∈ c, -1099511627776 ≤ x ∧ x ≤ 1099511627776) ∧ st = ⟨77, [(1, sI c), (3, .op 0 0 0), (5, .op 1 0 0)], [(0, some (.box 32 (eMod m))), (1, some (.box 38 (eNd n)))], 2⟩) (sc_of mixedT ?_) ?_
  · (repeat' (first | simp (maxSteps := 5000000) (implicitDefEqProofs := false) only [ruA, aEv, ASt.put] | (with_reducible refine aIf_split (fun _ => ?_) (fun _ => ?_)) | (with_reducible refine aSel_split (fun _ => ?_) (fun _ => ?_)) | (with_reducible refine aGd_split (fun _ => ?_) (fun _ => ?_))))
    refine aLoop_of (fun st => ∃ k : Nat, k ≤ c.length ∧ (∀ j (h : j < c.length), j < k → -1099511627776 ≤ c[j] ∧ c[j] ≤ 1099511627776) ∧ st = ⟨77, [(1, sI c), (3, .op 0 0 0), (5, .op 1 0 0), (7, eI (k : Int))], [(0, some (.box 32 (eMod m))), (1, some (.box 38 (eNd n)))], 2⟩) (fun st => c.length - slotN st 7) ⟨_, (weak_cut1 (by (first | ((simp only [envIn, tabIn, envLt, tabLt, AObj.lt, AV.lt, AV.ltL, ruW, ASt.get, aget, ↓reduceIte, Nat.reduceLT, Nat.reduceEqDiff, eq_self]) <;> (repeat' apply And.intro) <;> first | (rw [wrapK (by omega)]; done) | (simp; done) | omega) | fail))), 0, Nat.zero_le _, fun j _ h => by omega, rfl⟩ ?_
    rintro _ ⟨k, hk, hok, rfl⟩
    by_cases hlt : k < c.length
    · have hok2 : (-1099511627776 ≤ c[k] ∧ c[k] ≤ 1099511627776) → ∀ j (h : j < c.length), j < k + 1 → -1099511627776 ≤ c[j] ∧ c[j] ≤ 1099511627776 := fun h j hj hji => by
        rcases Nat.lt_or_ge j k with h2 | h2
        · exact hok j hj h2
        · obtain rfl : j = k := by omega
          exact h
      generalize hg : c[k] = g at *
      by_cases g4 : 1099511627776 < g
      · have d4 : decide (1099511627776 < g) = true := by simpa using g4
        (repeat' (first | simp (maxSteps := 5000000) (implicitDefEqProofs := false) only [ruA, ruB, aEv, aTake, aLoad, aIndex, aLen, aBin, bin2, ASt.get, aget, ASt.put, aResL, aOne, ↓reduceIte, reduceCtorEq, Nat.reduceLT, Nat.reduceEqDiff, eq_self, ne_eq, tyE_23, tyA_2, tyS_2, row_at, hlt, hg, d4] | (with_reducible refine aIf_split (fun _ => ?_) (fun _ => ?_)) | (with_reducible refine aSel_split (fun _ => ?_) (fun _ => ?_)) | (with_reducible refine aGd_split (fun _ => ?_) (fun _ => ?_)) | (with_reducible refine aDraw_quiet (by kernel_rfl) ?_) | ((with_reducible apply callV (g := 7)); exact (awake27b_A)) | ((with_reducible apply callD (g := 7)); exact (awake27b_A))))
      · have d4 : decide (1099511627776 < g) = false := by simpa using g4
        by_cases g5 : g < -1099511627776
        · have d5 : decide (g < -1099511627776) = true := by simpa using g5
          (repeat' (first | simp (maxSteps := 5000000) (implicitDefEqProofs := false) only [ruA, ruB, aEv, aTake, aLoad, aIndex, aLen, aBin, bin2, ASt.get, aget, ASt.put, aResL, aOne, ↓reduceIte, reduceCtorEq, Nat.reduceLT, Nat.reduceEqDiff, eq_self, ne_eq, tyE_23, tyA_2, tyS_2, row_at, hlt, hg, d4, d5] | (with_reducible refine aIf_split (fun _ => ?_) (fun _ => ?_)) | (with_reducible refine aSel_split (fun _ => ?_) (fun _ => ?_)) | (with_reducible refine aGd_split (fun _ => ?_) (fun _ => ?_)) | (with_reducible refine aDraw_quiet (by kernel_rfl) ?_) | ((with_reducible apply callV (g := 7)); exact (awake27b_A)) | ((with_reducible apply callD (g := 7)); exact (awake27b_A))))
        · have d5 : decide (g < -1099511627776) = false := by simpa using g5
          (repeat' (first | simp (maxSteps := 5000000) (implicitDefEqProofs := false) only [ruA, ruB, aEv, aTake, aLoad, aIndex, aLen, aBin, bin2, ASt.get, aget, ASt.put, ↓reduceIte, reduceCtorEq, Nat.reduceLT, Nat.reduceEqDiff, eq_self, ne_eq, tyE_23, tyA_2, tyS_2, row_at, hlt, hg, d4, d5] | (with_reducible refine aIf_split (fun _ => ?_) (fun _ => ?_)) | (with_reducible refine aSel_split (fun _ => ?_) (fun _ => ?_)) | (with_reducible refine aGd_split (fun _ => ?_) (fun _ => ?_)) | (with_reducible refine aDraw_quiet (by kernel_rfl) ?_) | ((with_reducible apply callV (g := 7)); exact (awake27b_A)) | ((with_reducible apply callD (g := 7)); exact (awake27b_A))))
          all_goals exact roundI (weak_cut1 (by (first | ((simp only [envIn, tabIn, envLt, tabLt, AObj.lt, AV.lt, AV.ltL, ruW, ASt.get, aget, ↓reduceIte, Nat.reduceLT, Nat.reduceEqDiff, eq_self]) <;> (repeat' apply And.intro) <;> first | (rw [wrapK (by omega)]; done) | (simp; done) | omega) | fail))) ⟨k + 1, by omega, hok2 ⟨by omega, by omega⟩, rfl⟩ (by simp only [slotN, ASt.get, aget, ↓reduceIte, Nat.reduceLT, Nat.reduceEqDiff, eq_self]; omega)
    · obtain rfl : k = c.length := by omega
      (repeat' (first | simp (maxSteps := 5000000) (implicitDefEqProofs := false) only [ruA, ruB, aEv, aLen, aBin, bin2, ASt.get, aget, ASt.put, ↓reduceIte, Nat.reduceLT, Nat.reduceEqDiff, eq_self, ne_eq, tyE_23, hlt] | (with_reducible refine aIf_split (fun _ => ?_) (fun _ => ?_)) | (with_reducible refine aSel_split (fun _ => ?_) (fun _ => ?_)) | (with_reducible refine aGd_split (fun _ => ?_) (fun _ => ?_)) | (with_reducible refine aDraw_quiet (by kernel_rfl) ?_)))
      all_goals exact aTo_mk (weak_cut1 (by (first | ((simp only [envIn, tabIn, envLt, tabLt, AObj.lt, AV.lt, AV.ltL, ruW, ASt.get, aget, ↓reduceIte, Nat.reduceLT, Nat.reduceEqDiff, eq_self]) <;> (repeat' apply And.intro) <;> first | (rw [wrapK (by omega)]; done) | (simp; done) | omega) | fail))) ⟨fun x hx => by
        obtain ⟨j, hj, rfl⟩ := List.getElem_of_mem hx
        exact hok j hj hj, rfl⟩
  rintro _ ⟨hcb, rfl⟩
  obtain ⟨-, hmil, hstg, hel, -, -, -, -, -, hil⟩ := id hf.sizes
  have hatt := hk.attrs
  have hS := nodeSample_A m c n hel hm (by omega) g1 g2 (by omega) hcb (fun x hx => by have := hat x hx; unfold ok64 at this; omega) (by omega) (by omega)
  obtain ⟨t, ht, hCk⟩ := adet_iff (nodeCheckR_A m c n hel hm (by omega) g1 g2 (by omega) hc hat (by omega) (by omega) hop hdo hdid)
  refine sc_cut (fun st => (t = false ∧ st = ⟨77, [(1, sI c), (3, .op 0 0 0), (5, .op 1 0 0), (8, .op 2 0 0), (9, eB false)], [(0, some (.box 32 (eMod m))), (1, some (.box 38 (eNd n))), (2, some (.box 43 St0))], 3⟩) ∨ ∃ v : List Int, t = true ∧ v.length = m.attrs.length ∧ zoneM v c (leftN m n.cnt m.events.length) = n.z ∧ (∀ x ∈ v, ok64 x) ∧ st = ⟨77, [(1, sI c), (3, .op 0 0 0), (5, .op 1 0 0), (8, .op 2 0 0), (9, eB true)], [(0, some (.box 32 (eMod m))), (1, some (.box 38 (eNd n))), (2, some (.box 43 [sI v, eI n.opn, eI n.don, sI n.did, sI n.cnt]))], 3⟩) (sc_of mixedT ?_) ?_
  · (repeat' (first | simp (maxSteps := 5000000) (implicitDefEqProofs := false) only [ruA, ruB, aEv, aTake, aLoad, ASt.get, aget, ASt.put, ↓reduceIte, Nat.reduceLT, Nat.reduceEqDiff, Nat.reduceAdd, eq_self, tyA_32, tyS_32, tyA_38, tyS_38] | (with_reducible refine aIf_split (fun _ => ?_) (fun _ => ?_)) | (with_reducible refine aSel_split (fun _ => ?_) (fun _ => ?_)) | (with_reducible refine aGd_split (fun _ => ?_) (fun _ => ?_))))
    refine callP hS fun R hR => ?_
    rcases hR with ⟨h5, rfl⟩ | ⟨h5, v, rfl, h6, h7, h8⟩
    · have ht0 : t = false := by
        cases t with
        | false => rfl
        | true => exact (h5 (ht.1 rfl)).elim
      refine ⟨.inl (by simp [roL, roA, treeL, treeC]), ?_⟩
      (repeat' (first | simp (maxSteps := 5000000) (implicitDefEqProofs := false) only [ruA, ruB, aEv, aExtract, ASt.get, aget, ASt.put, aStore, aBox, aCells, oneC, oneCL, Value.cells, Value.oneCell', ↓reduceIte, Nat.reduceLT, Nat.reduceEqDiff, Nat.reduceAdd, eq_self, AV.shift, AV.shiftL, tyZ_43, tyS_43, shiftT_nil, St0] | (with_reducible refine aIf_split (fun _ => ?_) (fun _ => ?_)) | (with_reducible refine aSel_split (fun _ => ?_) (fun _ => ?_)) | (with_reducible refine aGd_split (fun _ => ?_) (fun _ => ?_)) | (with_reducible refine aDraw_quiet (by kernel_rfl) ?_)))
      all_goals exact aTo_mk (weak_cut1 (by (first | ((simp only [envIn, tabIn, envLt, tabLt, AObj.lt, AV.lt, AV.ltL, ruW, ASt.get, aget, ↓reduceIte, reduceCtorEq, Nat.reduceLT, Nat.reduceEqDiff, eq_self]) <;> (repeat' apply And.intro) <;> first | (rw [wrapK (by omega)]; done) | (simp; done) | omega) | fail))) (.inl ⟨ht0, rfl⟩)
    · have ht0 : t = true := ht.2 h5
      refine ⟨.inl (by simp [roL, roA, treeL, treeC]), ?_⟩
      (repeat' (first | simp (maxSteps := 5000000) (implicitDefEqProofs := false) only [ruA, ruB, aEv, aExtract, ASt.get, aget, ASt.put, aStore, aBox, aCells, oneC, oneCL, Value.cells, Value.oneCell', ↓reduceIte, Nat.reduceLT, Nat.reduceEqDiff, Nat.reduceAdd, eq_self, AV.shift, AV.shiftL, tyZ_43, tyS_43, shiftT_nil] | (with_reducible refine aIf_split (fun _ => ?_) (fun _ => ?_)) | (with_reducible refine aSel_split (fun _ => ?_) (fun _ => ?_)) | (with_reducible refine aGd_split (fun _ => ?_) (fun _ => ?_)) | (with_reducible refine aDraw_quiet (by kernel_rfl) ?_)))
      all_goals exact aTo_mk (weak_cut1 (by (first | ((simp only [envIn, tabIn, envLt, tabLt, AObj.lt, AV.lt, AV.ltL, ruW, ASt.get, aget, ↓reduceIte, reduceCtorEq, Nat.reduceLT, Nat.reduceEqDiff, eq_self]) <;> (repeat' apply And.intro) <;> first | (rw [wrapK (by omega)]; done) | (simp; done) | omega) | fail))) (.inr ⟨v, ht0, h6, h7, h8, rfl⟩)
  rintro _ (⟨rfl, rfl⟩ | ⟨v, rfl, hvl, hvz, hv64, rfl⟩)
  · refine sc_of mixedT ?_
    have q1 : (!false == false) = false := rfl
    (repeat' (first | simp (maxSteps := 5000000) (implicitDefEqProofs := false) only [ruA, ruB, aEv, aTake, aLoad, ASt.get, aget, ASt.put, ↓reduceIte, Nat.reduceLT, Nat.reduceEqDiff, Nat.reduceAdd, eq_self, tyA_32, tyS_32, tyA_38, tyS_38] | (with_reducible refine aIf_split (fun _ => ?_) (fun _ => ?_)) | (with_reducible refine aSel_split (fun _ => ?_) (fun _ => ?_)) | (with_reducible refine aGd_split (fun _ => ?_) (fun _ => ?_))))
    refine callV hCk ?_
    (repeat' (first | simp (maxSteps := 5000000) (implicitDefEqProofs := false) only [ruA, ruB, aEv, aBin, bin2, aUn, un1, ASt.get, aget, ASt.put, aResL, aOne, ↓reduceIte, Nat.reduceLT, Nat.reduceEqDiff, eq_self, tyK_4, q1] | (with_reducible refine aIf_split (fun _ => ?_) (fun _ => ?_)) | (with_reducible refine aSel_split (fun _ => ?_) (fun _ => ?_)) | (with_reducible refine aGd_split (fun _ => ?_) (fun _ => ?_)) | (with_reducible refine aDraw_quiet (by kernel_rfl) ?_) | ((with_reducible apply callV (g := 7)); exact (awake27b_A)) | ((with_reducible apply callD (g := 7)); exact (awake27b_A))))
    all_goals trace_state
  · refine sc_of mixedT ?_
    have hNP := ht.1 rfl
    have q1 : (!true == true) = false := rfl
    have hR := nodeOf_A m c ⟨v, n.opn, n.don, n.did, n.cnt⟩ hel hm (by show v.length ≤ _; omega) (by omega) hv64 hc (by show n.did.length ≤ _; omega) (by show n.cnt.length ≤ _; omega)
    have hnd : nodeM m c ⟨v, n.opn, n.don, n.did, n.cnt⟩ = n := by
      unfold nodeM
      rw [hvz]
    rw [hnd] at hR
    have hSm := sameNd_A n (by omega) (by omega) (by omega) (by omega)
    have hCh := checkR_A m ⟨v, n.opn, n.don, n.did, n.cnt⟩ (by omega) hop hdo hdid
    rw [chk_vals m n v hvl, hNP.1] at hCh
    (repeat' (first | simp (maxSteps := 5000000) (implicitDefEqProofs := false) only [ruA, ruB, aEv, aTake, aLoad, ASt.get, aget, ASt.put, ↓reduceIte, Nat.reduceLT, Nat.reduceEqDiff, Nat.reduceAdd, eq_self, tyA_32, tyS_32, tyA_38, tyS_38] | (with_reducible refine aIf_split (fun _ => ?_) (fun _ => ?_)) | (with_reducible refine aSel_split (fun _ => ?_) (fun _ => ?_)) | (with_reducible refine aGd_split (fun _ => ?_) (fun _ => ?_))))
    refine callV hCk ?_
    (repeat' (first | simp (maxSteps := 5000000) (implicitDefEqProofs := false) only [ruA, aEv, aBin, bin2, ASt.get, aget, ASt.put, ↓reduceIte, Nat.reduceLT, Nat.reduceEqDiff, eq_self, tyK_4, q1] | (with_reducible refine aIf_split (fun _ => ?_) (fun _ => ?_)) | (with_reducible refine aSel_split (fun _ => ?_) (fun _ => ?_)) | (with_reducible refine aGd_split (fun _ => ?_) (fun _ => ?_))))
    refine aDraw_held [] [0, 1, 2, 3, 4] (.exec 5 (.take 6 (.take 7 (.take 8 (.take 9 (.take 11 (.exec 10 (.exec 12 (.take 13 (.take 14 (.take 15 (.exec 16 (.take 17 (.exec 18 .done)))))))))))))) (by kernel_rfl) (by simp [ATab.get_cons]) ?_
    (repeat' (first | simp (maxSteps := 5000000) (implicitDefEqProofs := false) only [ruA, ruB, aEv, aTake, aLoad, aUn, un1, ASt.get, aget, ASt.put, aResL, aOne, ↓reduceIte, Nat.reduceLT, Nat.reduceEqDiff, Nat.reduceAdd, eq_self, aTakes, aTakeE, aElder, aFrom, AV.shift, AV.shiftL, tyA_32, tyS_32, tyA_38, tyS_38, tyS_43, tyA_43] | (with_reducible refine aIf_split (fun _ => ?_) (fun _ => ?_)) | (with_reducible refine aSel_split (fun _ => ?_) (fun _ => ?_)) | (with_reducible refine aGd_split (fun _ => ?_) (fun _ => ?_)) | (with_reducible refine aDraw_quiet (by kernel_rfl) ?_) | ((with_reducible apply callV); exact (hCh)) | ((with_reducible apply callD); exact (hCh)) | ((with_reducible apply callT); exact (hR); exact (.inl (by simp [roL, roA, treeL, treeC]))) | ((with_reducible apply callV); exact (hSm)) | ((with_reducible apply callD); exact (hSm)) | ((with_reducible apply callV (g := 7)); exact (awake27b_A)) | ((with_reducible apply callD (g := 7)); exact (awake27b_A)) | (with_reducible apply And.intro)))
    all_goals trace_state
end
section
open Go.RowKit

theorem opensInt : Opens Tryz.prog 3 (intR .i64) := opens_int Tryz.underlying3
theorem opensI64 : Opens Tryz.prog 2 (intR .i64) := opens_int Tryz.underlying2
def valR : Rep (Int × Int × Unit) := pairR (intR .i64) (pairR (intR .i64) nilR)
theorem opensVal : Opens Tryz.prog 115 valR :=
  opens_struct Tryz.underlying115 (by kernel_rfl) (opensF_cons (by kernel_rfl) (by kernel_rfl) opensInt (opensF_cons (by kernel_rfl) (by kernel_rfl) opensI64 (opensF_nil _ _)))
def instP : Rep (Int × (Int × Int × Unit) × (Int × Int × Unit) × Int × Int × Unit) := pairR (intR .i64) (pairR valR (pairR valR (pairR (intR .i64) (pairR (intR .i64) nilR))))
theorem opensInstP : Opens Tryz.prog 117 instP :=
  opens_struct Tryz.underlying117 (by kernel_rfl) (opensF_cons (by kernel_rfl) (by kernel_rfl) opensInt (opensF_cons (by kernel_rfl) (by kernel_rfl) opensVal (opensF_cons (by kernel_rfl) (by kernel_rfl) opensVal (opensF_cons (by kernel_rfl) (by kernel_rfl) opensInt (opensF_cons (by kernel_rfl) (by kernel_rfl) opensInt (opensF_nil _ _))))))
theorem opensInst : Opens Tryz.prog 117 instR := opens_map opensInstP (fun p => ⟨p.1, p.2.1.1, p.2.1.2.1, p.2.2.1.1, p.2.2.1.2.1, p.2.2.2.1, p.2.2.2.2.1⟩) (by
  rintro w S cs ⟨op, ⟨la, ln, _⟩, ⟨ra, rn, _⟩, n, u, _⟩ h
  obtain ⟨c0, q0, e0, ⟨a0, h0⟩, h'⟩ := pair_inv h
  obtain ⟨c1, q1, e1, h1, h''⟩ := pair_inv h'
  obtain ⟨c2, q2, e2, h2, h3⟩ := pair_inv h''
  obtain ⟨c3, q3, e3, ⟨a3, h3'⟩, h4⟩ := pair_inv h3
  obtain ⟨c4, q4, e4, ⟨a4, h4'⟩, h5⟩ := pair_inv h4
  have h5 : q4 = [] := h5
  obtain ⟨d0, k0, f0, ⟨b0, g0⟩, m0⟩ := pair_inv h1
  obtain ⟨d1, k1, f1, ⟨b1, g1⟩, m1⟩ := pair_inv m0
  have m1 : k1 = [] := m1
  obtain ⟨d2, k2, f2, ⟨b2, g2⟩, m2⟩ := pair_inv h2
  obtain ⟨d3, k3, f3, ⟨b3, g3⟩, m3⟩ := pair_inv m2
  have m3 : k3 = [] := m3
  refine ⟨?_, wf_i64 h0, wf_i64 g0, wf_i64 g1, wf_i64 g2, wf_i64 g3, wf_i64 h3', wf_i64 h4'⟩
  rw [e0, e1, e2, e3, e4, h5, a0, f0, f1, m1, b0, b1, f2, f3, m3, b2, b3, a3, a4]
  rfl)
theorem opensInsts : Opens Tryz.prog 76 (sliceR instR) := opens_slice Tryz.underlying76 (by kernel_rfl) (by decide) opensInst
theorem opensI64s : Opens Tryz.prog 23 (sliceR (intR .i64)) := opens_slice Tryz.underlying23 (by kernel_rfl) (by decide) opensI64
theorem opensIntsE : Opens Tryz.prog 34 (sliceR (intR .i64)) := opens_slice Tryz.underlying34 (by kernel_rfl) (by decide) opensInt
end
section
open Go.RowKit

theorem opensStr : Opens Tryz.prog 9 strR := opens_string Tryz.underlying9
theorem opensBoolM : Opens Tryz.prog 4 boolR := opens_bool Tryz.underlying4
theorem opensNameInt {t : TypeId} (h : Opens Tryz.prog t (pairR strR (pairR (intR .i64) nilR))) : Opens Tryz.prog t nameIntR := opens_map h (fun p => (p.1, p.2.1)) (by
  rintro w S cs ⟨s, n, _⟩ h
  obtain ⟨c0, q0, e0, ⟨a0, h0⟩, h⟩ := pair_inv h
  obtain ⟨c1, q1, e1, ⟨a1, h1⟩, h⟩ := pair_inv h
  have h : q1 = [] := h
  exact ⟨by rw [e0, e1, a0, a1, h]; rfl, h0, wf_i64 h1⟩)
theorem opensStage : Opens Tryz.prog 85 nameIntR := opensNameInt (opens_struct Tryz.underlying85 (by kernel_rfl) (opensF_cons (by kernel_rfl) (by kernel_rfl) opensStr (opensF_cons (by kernel_rfl) (by kernel_rfl) opensInt (opensF_nil _ _))))
theorem opensRole : Opens Tryz.prog 82 nameIntR := opensNameInt (opens_struct Tryz.underlying82 (by kernel_rfl) (opensF_cons (by kernel_rfl) (by kernel_rfl) opensStr (opensF_cons (by kernel_rfl) (by kernel_rfl) opensInt (opensF_nil _ _))))
theorem opensSod : Opens Tryz.prog 89 intIntR := opens_map (r := pairR (intR .i64) (pairR (intR .i64) nilR)) (opens_struct Tryz.underlying89 (by kernel_rfl) (opensF_cons (by kernel_rfl) (by kernel_rfl) opensInt (opensF_cons (by kernel_rfl) (by kernel_rfl) opensInt (opensF_nil _ _)))) (fun p => (p.1, p.2.1)) (by
  rintro w S cs ⟨s, n, _⟩ h
  obtain ⟨c0, q0, e0, ⟨a0, h0⟩, h⟩ := pair_inv h
  obtain ⟨c1, q1, e1, ⟨a1, h1⟩, h⟩ := pair_inv h
  have h : q1 = [] := h
  exact ⟨by rw [e0, e1, a0, a1, h]; rfl, wf_i64 h0, wf_i64 h1⟩)
theorem opensSentry : Opens Tryz.prog 97 sentryR := opens_map (r := pairR boolR (pairR (intR .i64) nilR)) (opens_struct Tryz.underlying97 (by kernel_rfl) (opensF_cons (by kernel_rfl) (by kernel_rfl) opensBoolM (opensF_cons (by kernel_rfl) (by kernel_rfl) opensInt (opensF_nil _ _)))) (fun p => (p.1, p.2.1)) (by
  rintro w S cs ⟨s, n, _⟩ h
  obtain ⟨c0, q0, e0, a0, h⟩ := pair_inv h
  have a0 : c0 = [.bool s] := a0
  obtain ⟨c1, q1, e1, ⟨a1, h1⟩, h⟩ := pair_inv h
  have h : q1 = [] := h
  exact ⟨by rw [e0, e1, a0, a1, h]; rfl, wf_i64 h1⟩)
theorem opensGuard : Opens Tryz.prog 78 gdR := opens_map (r := pairR (intR .i64) (pairR (intR .i64) (pairR (sliceR instR) nilR))) (opens_struct Tryz.underlying78 (by kernel_rfl) (opensF_cons (by kernel_rfl) (by kernel_rfl) opensInt (opensF_cons (by kernel_rfl) (by kernel_rfl) opensInt (opensF_cons (by kernel_rfl) (by kernel_rfl) opensInsts (opensF_nil _ _))))) (fun p => ⟨p.1, p.2.1, p.2.2.1⟩) (by
  rintro w S cs ⟨s, n, l, _⟩ h
  obtain ⟨c0, q0, e0, ⟨a0, h0⟩, h⟩ := pair_inv h
  obtain ⟨c1, q1, e1, ⟨a1, h1⟩, h⟩ := pair_inv h
  obtain ⟨c2, q2, e2, h2, h⟩ := pair_inv h
  have h : q2 = [] := h
  obtain ⟨cv, rfl, h2⟩ := one_inv (r := sliceR instR) rfl h2
  exact ⟨cv, by rw [e0, e1, e2, a0, a1, h]; rfl, h2, wf_i64 h0, wf_i64 h1⟩)
theorem opensMile : Opens Tryz.prog 80 mlR := opens_map (r := pairR strR (pairR (intR .i64) (pairR (intR .i64) (pairR (sliceR instR) (pairR boolR nilR))))) (opens_struct Tryz.underlying80 (by kernel_rfl) (opensF_cons (by kernel_rfl) (by kernel_rfl) opensStr (opensF_cons (by kernel_rfl) (by kernel_rfl) opensInt (opensF_cons (by kernel_rfl) (by kernel_rfl) opensInt (opensF_cons (by kernel_rfl) (by kernel_rfl) opensInsts (opensF_cons (by kernel_rfl) (by kernel_rfl) opensBoolM (opensF_nil _ _))))))) (fun p => ⟨p.1, p.2.1, p.2.2.1, p.2.2.2.1, p.2.2.2.2.1⟩) (by
  rintro w S cs ⟨nm, s, n, l, b, _⟩ h
  obtain ⟨c9, q9, e9, ⟨a9, h9⟩, h⟩ := pair_inv h
  obtain ⟨c0, q0, e0, ⟨a0, h0⟩, h⟩ := pair_inv h
  obtain ⟨c1, q1, e1, ⟨a1, h1⟩, h⟩ := pair_inv h
  obtain ⟨c2, q2, e2, h2, h⟩ := pair_inv h
  obtain ⟨c3, q3, e3, a3, h⟩ := pair_inv h
  have a3 : c3 = [.bool b] := a3
  have h : q3 = [] := h
  obtain ⟨cv, rfl, h2⟩ := one_inv (r := sliceR instR) rfl h2
  exact ⟨cv, by rw [e9, e0, e1, e2, e3, a9, a0, a1, a3, h]; rfl, h2, wf_i64 h0, wf_i64 h1, h9⟩)
theorem opensEvent : Opens Tryz.prog 51 evR := opens_map (r := pairR strR (pairR (intR .i64) (pairR (intR .i64) (pairR (sliceR (intR .i64)) (pairR (intR .i64) nilR))))) (opens_struct Tryz.underlying51 (by kernel_rfl) (opensF_cons (by kernel_rfl) (by kernel_rfl) opensStr (opensF_cons (by kernel_rfl) (by kernel_rfl) opensInt (opensF_cons (by kernel_rfl) (by kernel_rfl) opensInt (opensF_cons (by kernel_rfl) (by kernel_rfl) opensIntsE (opensF_cons (by kernel_rfl) (by kernel_rfl) opensInt (opensF_nil _ _))))))) (fun p => ⟨p.1, p.2.1, p.2.2.1, p.2.2.2.1, p.2.2.2.2.1⟩) (by
  rintro w S cs ⟨nm, s, n, l, b, _⟩ h
  obtain ⟨c9, q9, e9, ⟨a9, h9⟩, h⟩ := pair_inv h
  obtain ⟨c0, q0, e0, ⟨a0, h0⟩, h⟩ := pair_inv h
  obtain ⟨c1, q1, e1, ⟨a1, h1⟩, h⟩ := pair_inv h
  obtain ⟨c2, q2, e2, h2, h⟩ := pair_inv h
  obtain ⟨c3, q3, e3, ⟨a3, h3⟩, h⟩ := pair_inv h
  have h : q3 = [] := h
  obtain ⟨cv, rfl, h2⟩ := one_inv (r := sliceR (intR .i64)) rfl h2
  exact ⟨cv, by rw [e9, e0, e1, e2, e3, a9, a0, a1, a3, h]; rfl, h2, wf_i64 h0, wf_i64 h1, wf_i64 h3, h9⟩)
abbrev modP := pairR (sliceR strR) (pairR (sliceR (intR .i64)) (pairR (sliceR strR) (pairR (sliceR nameIntR) (pairR (sliceR nameIntR) (pairR (sliceR evR) (pairR (sliceR gdR) (pairR (sliceR mlR) (pairR (sliceR intIntR) (pairR (sliceR sentryR) nilR)))))))))
set_option maxRecDepth 100000 in
theorem opensModP : Opens Tryz.prog 32 modP := opens_struct Tryz.underlying32 (by kernel_rfl) (opensF_cons (by kernel_rfl) (by kernel_rfl) (opens_slice Tryz.underlying22 (by kernel_rfl) (by decide) opensStr) (opensF_cons (by kernel_rfl) (by kernel_rfl) (opens_slice Tryz.underlying23 (by kernel_rfl) (by decide) opensI64) (opensF_cons (by kernel_rfl) (by kernel_rfl) (opens_slice Tryz.underlying22 (by kernel_rfl) (by decide) opensStr) (opensF_cons (by kernel_rfl) (by kernel_rfl) (opens_slice Tryz.underlying24 (by kernel_rfl) (by decide) opensRole) (opensF_cons (by kernel_rfl) (by kernel_rfl) (opens_slice Tryz.underlying25 (by kernel_rfl) (by decide) opensStage) (opensF_cons (by kernel_rfl) (by kernel_rfl) (opens_slice Tryz.underlying26 (by kernel_rfl) (by decide) opensEvent) (opensF_cons (by kernel_rfl) (by kernel_rfl) (opens_slice Tryz.underlying27 (by kernel_rfl) (by decide) opensGuard) (opensF_cons (by kernel_rfl) (by kernel_rfl) (opens_slice Tryz.underlying28 (by kernel_rfl) (by decide) opensMile) (opensF_cons (by kernel_rfl) (by kernel_rfl) (opens_slice Tryz.underlying29 (by kernel_rfl) (by decide) opensSod) (opensF_cons (by kernel_rfl) (by kernel_rfl) (opens_slice Tryz.underlying30 (by kernel_rfl) (by decide) opensSentry) (opensF_nil _ _)))))))))))
theorem open_mod {H : Type} {enc : TypeId × Value → H} {w : World} {fuel : Nat} {cs : Array Value} {x : DataW H × List MemPlace} (h : DataW.trod enc Tryz.prog w 0 (fun _ => true) true fuel 32 cs.toList = some x) :
    ∃ (V : MV) (m : Mod), cs = V.cells ∧ ModI w V m := by
  obtain ⟨⟨attrs, inits, users, roles, stages, events, guards, miles, sods, order, _⟩, h⟩ := opensModP H enc w fuel _ _ h
  obtain ⟨c0, q0, e0, h0, h⟩ := pair_inv h
  obtain ⟨c1, q1, e1, h1, h⟩ := pair_inv h
  obtain ⟨c2, q2, e2, h2, h⟩ := pair_inv h
  obtain ⟨c3, q3, e3, h3, h⟩ := pair_inv h
  obtain ⟨c4, q4, e4, h4, h⟩ := pair_inv h
  obtain ⟨c5, q5, e5, h5, h⟩ := pair_inv h
  obtain ⟨c6, q6, e6, h6, h⟩ := pair_inv h
  obtain ⟨c7, q7, e7, h7, h⟩ := pair_inv h
  obtain ⟨c8, q8, e8, h8, h⟩ := pair_inv h
  obtain ⟨c9, q9, e9, h9, h⟩ := pair_inv h
  obtain rfl : q9 = [] := h
  obtain ⟨v0, rfl, h0⟩ := one_inv (r := sliceR strR) rfl h0
  obtain ⟨v1, rfl, h1⟩ := one_inv (r := sliceR (intR .i64)) rfl h1
  obtain ⟨v2, rfl, h2⟩ := one_inv (r := sliceR strR) rfl h2
  obtain ⟨v3, rfl, h3⟩ := one_inv (r := sliceR nameIntR) rfl h3
  obtain ⟨v4, rfl, h4⟩ := one_inv (r := sliceR nameIntR) rfl h4
  obtain ⟨v5, rfl, h5⟩ := one_inv (r := sliceR evR) rfl h5
  obtain ⟨v6, rfl, h6⟩ := one_inv (r := sliceR gdR) rfl h6
  obtain ⟨v7, rfl, h7⟩ := one_inv (r := sliceR mlR) rfl h7
  obtain ⟨v8, rfl, h8⟩ := one_inv (r := sliceR intIntR) rfl h8
  obtain ⟨v9, rfl, h9⟩ := one_inv (r := sliceR sentryR) rfl h9
  refine ⟨⟨v0, v1, v2, v3, v4, v5, v6, v7, v8, v9⟩, ⟨attrs, inits, users, roles, stages, events, guards, miles, sods, order⟩, ?_, ⟨h0, h1, h2, h3, h4, h5, h6, h7, h8, h9⟩⟩
  apply Array.ext'
  rw [e0, e1, e2, e3, e4, e5, e6, e7, e8, e9]
  rfl
end
section
open Go.RowKit
def Into {α : Type} (r : Rep α) (f : α → List AV) : Prop := ∀ (w : World) (S : Nat → Prop) (cs : List Value) (x : α), r.at_ w S cs x → (f x).length = r.size ∧ ∀ (j : Nat) (u : Value) (av : AV), cs[j]? = some u → (f x)[j]? = some av → RT w S u av ∧ u.oneCell' = true
theorem Into.slice {α : Type} {r : Rep α} {f : α → List AV} (h : Into r f) {w : World} {S : Nat → Prop} {v : Value} {l : List α} (hv : (sliceR r).one w S v l) : RT w S v (.sl r.size (l.map f)) := by
  obtain ⟨A, c, rfl, h1, h2⟩ := slice_form hv
  by_cases h0 : 0 < l.length
  · obtain ⟨b, o, rfl, hb, hrow⟩ := slice_some hv h0
    classical
    let cs : Nat → List Value := fun i => if hi : i < l.length then (hrow i hi).choose else []
    have hcs : ∀ i (hi : i < l.length), (∀ (j : Nat) (u : Value), (cs i)[j]? = some u → w.cell? ⟨b, o + i * r.size + j, none⟩ = some u) ∧ r.at_ w S (cs i) l[i] := fun i hi => by
      have := (hrow i hi).choose_spec
      simpa [cs, hi] using this
    have key : ∀ (i j : Nat) (row : List AV) (av : AV), (l.map f)[i]? = some row → row[j]? = some av → ∃ hi : i < l.length, (cs i)[j]? = some ((cs i).getD j undef) ∧ RT w S ((cs i).getD j undef) av ∧ ((cs i).getD j undef).oneCell' = true := fun i j row av h3 h4 => by
      have hi : i < l.length := by
        have := (List.getElem?_eq_some_iff.1 h3).1
        simpa using this
      have hf : row = f l[i] := by
        rw [List.getElem?_map, List.getElem?_eq_getElem hi] at h3
        exact (Option.some.inj h3).symm
      subst hf
      obtain ⟨h5, h6⟩ := h w S (cs i) l[i] (hcs i hi).2
      have hj : j < (cs i).length := by
        rw [r.len (hcs i hi).2, ← h5]
        exact (List.getElem?_eq_some_iff.1 h4).1
      have e : (cs i)[j]? = some ((cs i).getD j undef) := by
        rw [List.getD_eq_getElem?_getD, List.getElem?_eq_getElem hj]
        rfl
      exact ⟨hi, e, h6 j _ av e h4⟩
    refine .sl _ _ c r.size _ b o (fun i j => (cs i).getD j undef) (by simp) h1 h2 (fun _ => ⟨rfl, hb⟩) (fun row hr => ?_) (fun _ i j row av h3 h4 => ?_) (fun i j row av h3 h4 => (key i j row av h3 h4).elim fun _ h => h.2.2) (fun i j row av h3 h4 => (key i j row av h3 h4).elim fun _ h => h.2.1)
    · obtain ⟨i, hi, rfl⟩ := List.getElem_of_mem hr
      have hi : i < l.length := by simpa using hi
      simp only [List.getElem_map]
      exact (h w S (cs i) l[i] (hcs i hi).2).1
    · obtain ⟨hi, h5, _⟩ := key i j row av h3 h4
      exact (hcs i hi).1 j _ h5
  · have : l = [] := List.length_eq_zero_iff.1 (by omega)
    subst this
    exact .sl A 0 c r.size [] 0 0 (fun _ _ => undef) rfl h1 h2 (fun h => by omega) (by simp) (fun h => by omega) (by simp) (by simp)
theorem into_cells {α : Type} {r : Rep α} {f : α → List AV} (g : α → List Value) (hg : ∀ w S cs x, r.at_ w S cs x → cs = g x) (hs : ∀ x, (g x).length = r.size) (ho : ∀ x u, u ∈ g x → u.oneCell' = true) (hf : ∀ x, f x = (g x).map .c) : Into r f := fun w S cs x h => by
  obtain rfl := hg w S cs x h
  rw [hf]
  refine ⟨by simp [hs], fun j u av h1 h2 => ?_⟩
  rw [List.getElem?_map, h1] at h2
  cases h2
  exact ⟨.c u, ho x u (List.mem_of_getElem? h1)⟩
theorem into_str : Into strR (fun s => [eS s]) := into_cells (fun s => [.string s]) (fun w S cs x h => h.1) (fun x => rfl) (fun x u h => by simp at h; subst h; rfl) (fun x => rfl)
theorem into_int : Into (intR .i64) (fun n => [eI n]) := into_cells (fun n => [.int .i64 n]) (fun w S cs x h => h.1) (fun x => rfl) (fun x u h => by simp at h; subst h; rfl) (fun x => rfl)
theorem into_ni : Into nameIntR eNI := into_cells (fun p => [.string p.1, .int .i64 p.2]) (fun w S cs x h => h.1) (fun x => rfl) (fun x u h => by simp at h; rcases h with rfl | rfl <;> rfl) (fun x => rfl)
theorem into_ii : Into intIntR eII := into_cells (fun p => [.int .i64 p.1, .int .i64 p.2]) (fun w S cs x h => h.1) (fun x => rfl) (fun x u h => by simp at h; rcases h with rfl | rfl <;> rfl) (fun x => rfl)
theorem into_bi : Into sentryR eBI := into_cells (fun p => [.bool p.1, .int .i64 p.2]) (fun w S cs x h => h.1) (fun x => rfl) (fun x u h => by simp at h; rcases h with rfl | rfl <;> rfl) (fun x => rfl)
theorem into_inst : Into instR eInst := into_cells Inst.cells (fun w S cs x h => h.1) (fun x => rfl) (fun x u h => by simp [Inst.cells] at h; rcases h with rfl | rfl | rfl | rfl | rfl | rfl | rfl <;> rfl) (fun x => rfl)
theorem slice_one {α : Type} {r : Rep α} {w : World} {S : Nat → Prop} {v : Value} {l : List α} (h : (sliceR r).one w S v l) : v.oneCell' = true := by
  obtain ⟨A, c, rfl, _⟩ := slice_form h
  rfl
theorem into_gd : Into gdR eGd := fun w S cs x ⟨cv, h1, h2, _⟩ => by
  subst h1
  refine ⟨rfl, fun j u av h3 h4 => ?_⟩
  match j with
  | 0 => simp at h3 h4; subst h3; subst h4; exact ⟨.c _, rfl⟩
  | 1 => simp at h3 h4; subst h3; subst h4; exact ⟨.c _, rfl⟩
  | 2 => simp at h3 h4; subst h3; subst h4; exact ⟨into_inst.slice h2, slice_one h2⟩
  | j + 3 => simp at h3
theorem into_ml : Into mlR eMl := fun w S cs x ⟨cv, h1, h2, _⟩ => by
  subst h1
  refine ⟨rfl, fun j u av h3 h4 => ?_⟩
  match j with
  | 0 => simp at h3 h4; subst h3; subst h4; exact ⟨.c _, rfl⟩
  | 1 => simp at h3 h4; subst h3; subst h4; exact ⟨.c _, rfl⟩
  | 2 => simp at h3 h4; subst h3; subst h4; exact ⟨.c _, rfl⟩
  | 3 => simp at h3 h4; subst h3; subst h4; exact ⟨into_inst.slice h2, slice_one h2⟩
  | 4 => simp at h3 h4; subst h3; subst h4; exact ⟨.c _, rfl⟩
  | j + 5 => simp at h3
theorem into_ev : Into evR eEv := fun w S cs x ⟨cv, h1, h2, _⟩ => by
  subst h1
  refine ⟨rfl, fun j u av h3 h4 => ?_⟩
  match j with
  | 0 => simp at h3 h4; subst h3; subst h4; exact ⟨.c _, rfl⟩
  | 1 => simp at h3 h4; subst h3; subst h4; exact ⟨.c _, rfl⟩
  | 2 => simp at h3 h4; subst h3; subst h4; exact ⟨.c _, rfl⟩
  | 3 => simp at h3 h4; subst h3; subst h4; exact ⟨into_int.slice h2, slice_one h2⟩
  | 4 => simp at h3 h4; subst h3; subst h4; exact ⟨.c _, rfl⟩
  | j + 5 => simp at h3
theorem rt_mod {w : World} {V : MV} {m : Mod} (h : ModI w V m) : RT w (fun b => b < w.heap.size) (.agg V.cells) (.agg (eMod m)) := by
  refine .agg _ _ rfl fun j u av h1 h2 => ?_
  match j with
  | 0 => simp [MV.cells] at h1 h2; subst h1; subst h2; exact into_str.slice h.attrs
  | 1 => simp [MV.cells] at h1 h2; subst h1; subst h2; exact into_int.slice h.inits
  | 2 => simp [MV.cells] at h1 h2; subst h1; subst h2; exact into_str.slice h.users
  | 3 => simp [MV.cells] at h1 h2; subst h1; subst h2; exact into_ni.slice h.roles
  | 4 => simp [MV.cells] at h1 h2; subst h1; subst h2; exact into_ni.slice h.stages
  | 5 => simp [MV.cells] at h1 h2; subst h1; subst h2; exact into_ev.slice h.events
  | 6 => simp [MV.cells] at h1 h2; subst h1; subst h2; exact into_gd.slice h.guards
  | 7 => simp [MV.cells] at h1 h2; subst h1; subst h2; exact into_ml.slice h.miles
  | 8 => simp [MV.cells] at h1 h2; subst h1; subst h2; exact into_ii.slice h.sods
  | 9 => simp [MV.cells] at h1 h2; subst h1; subst h2; exact into_bi.slice h.order
  | j + 10 => simp at h2
theorem slice_all {α : Type} {r : Rep α} {w : World} {S : Nat → Prop} {v : Value} {l : List α} {Q : α → Prop} (h : (sliceR r).one w S v l) (hq : ∀ cs x, r.at_ w S cs x → Q x) : ∀ x ∈ l, Q x := fun x hx => by
  obtain ⟨i, hi, rfl⟩ := List.getElem_of_mem hx
  obtain ⟨A, c, rfl, _⟩ := slice_form h
  obtain ⟨b, o, rfl, _, hrow⟩ := slice_some h (by omega)
  obtain ⟨cs, _, h2⟩ := hrow i hi
  exact hq cs _ h2
theorem mod_conds {w : World} {V : MV} {m : Mod} (h : ModI w V m) : condOk m :=
  ⟨slice_all h.guards fun cs x ⟨cv, _, h2, _⟩ => slice_all h2 fun cs y h3 => h3.2, slice_all h.miles fun cs x ⟨cv, _, h2, _⟩ => slice_all h2 fun cs y h3 => h3.2⟩
theorem mod_pars {w : World} {V : MV} {m : Mod} (h : ModI w V m) : ∀ p ∈ m.stages, ok64 p.2 := slice_all h.stages fun cs x h2 => h2.2.2
end
section
open Go.ChangeShapes Go.WideShapes Go.ChangeAt Go.RowKit
def clsR : Rep Cls where
  size := 2
  at_ := fun w S cs g => cs = [.int .i64 g.attrs, .int .i64 g.const] ∧ ok64 g.attrs ∧ ok64 g.const
  len := fun h => by rw [h.1]; rfl
  keep := fun h _ => h
  mono := fun h _ => h
theorem opensCls : Opens Tryz.prog 63 clsR := opens_map (r := pairR (intR .i64) (pairR (intR .i64) nilR)) (opens_struct Tryz.underlying63 (by kernel_rfl) (opensF_cons (by kernel_rfl) (by kernel_rfl) opensInt (opensF_cons (by kernel_rfl) (by kernel_rfl) opensInt (opensF_nil _ _)))) (fun p => ⟨p.1, p.2.1⟩) (by
  rintro w S cs ⟨s, n, _⟩ h
  obtain ⟨c0, q0, e0, ⟨a0, h0⟩, h⟩ := pair_inv h
  obtain ⟨c1, q1, e1, ⟨a1, h1⟩, h⟩ := pair_inv h
  have h : q1 = [] := h
  exact ⟨by rw [e0, e1, a0, a1, h]; rfl, wf_i64 h0, wf_i64 h1⟩)
theorem into_cls : Into clsR eCls := into_cells (fun p => [.int .i64 p.attrs, .int .i64 p.const]) (fun w S cs x h => h.1) (fun x => rfl) (fun x u h => by simp at h; rcases h with rfl | rfl <;> rfl) (fun x => rfl)
def ndR : Rep Nd where
  size := 6
  at_ := fun w S cs g => ∃ v1 v2 v3 v4, cs = [v1, v2, .int .i64 g.opn, .int .i64 g.don, v3, v4] ∧ (sliceR clsR).one w S v1 g.z.cls ∧ (sliceR (intR .i64)).one w S v2 g.z.gaps ∧ (sliceR (intR .i64)).one w S v3 g.did ∧ (sliceR (intR .i64)).one w S v4 g.cnt ∧ ok64 g.opn ∧ ok64 g.don
  len := fun ⟨_, _, _, _, h, _⟩ => by rw [h]; rfl
  keep := fun ⟨v1, v2, v3, v4, h, h1, h2, h3, h4, h5⟩ hk => ⟨v1, v2, v3, v4, h, slice_keep h1 hk, slice_keep h2 hk, slice_keep h3 hk, slice_keep h4 hk, h5⟩
  mono := fun ⟨v1, v2, v3, v4, h, h1, h2, h3, h4, h5⟩ hB => ⟨v1, v2, v3, v4, h, slice_mono h1 hB, slice_mono h2 hB, slice_mono h3 hB, slice_mono h4 hB, h5⟩
def znP : Rep (List Cls × List Int × Unit) := pairR (sliceR clsR) (pairR (sliceR (intR .i64)) nilR)
theorem opensZn : Opens Tryz.prog 36 znP := opens_struct Tryz.underlying36 (by kernel_rfl) (opensF_cons (by kernel_rfl) (by kernel_rfl) (opens_slice Tryz.underlying33 (by kernel_rfl) (by decide) opensCls) (opensF_cons (by kernel_rfl) (by kernel_rfl) opensIntsE (opensF_nil _ _)))
theorem opensNd : Opens Tryz.prog 38 ndR := opens_map (r := pairR znP (pairR (intR .i64) (pairR (intR .i64) (pairR (sliceR (intR .i64)) (pairR (sliceR (intR .i64)) nilR))))) (opens_struct Tryz.underlying38 (by kernel_rfl) (opensF_cons (by kernel_rfl) (by kernel_rfl) opensZn (opensF_cons (by kernel_rfl) (by kernel_rfl) opensInt (opensF_cons (by kernel_rfl) (by kernel_rfl) opensInt (opensF_cons (by kernel_rfl) (by kernel_rfl) opensIntsE (opensF_cons (by kernel_rfl) (by kernel_rfl) opensIntsE (opensF_nil _ _))))))) (fun p => ⟨⟨p.1.1, p.1.2.1⟩, p.2.1, p.2.2.1, p.2.2.2.1, p.2.2.2.2.1⟩) (by
  rintro w S cs ⟨⟨cl, gp, _⟩, o, d, di, cn, _⟩ h
  obtain ⟨c0, q0, e0, hz, h⟩ := pair_inv h
  obtain ⟨c1, q1, e1, ⟨a1, h1⟩, h⟩ := pair_inv h
  obtain ⟨c2, q2, e2, ⟨a2, h2⟩, h⟩ := pair_inv h
  obtain ⟨c3, q3, e3, h3, h⟩ := pair_inv h
  obtain ⟨c4, q4, e4, h4, h⟩ := pair_inv h
  have h : q4 = [] := h
  obtain ⟨z0, p0, f0, g0, hz⟩ := pair_inv hz
  obtain ⟨z1, p1, f1, g1, hz⟩ := pair_inv hz
  have hz : p1 = [] := hz
  obtain ⟨v1, rfl, g0⟩ := one_inv (r := sliceR clsR) rfl g0
  obtain ⟨v2, rfl, g1⟩ := one_inv (r := sliceR (intR .i64)) rfl g1
  obtain ⟨v3, rfl, h3⟩ := one_inv (r := sliceR (intR .i64)) rfl h3
  obtain ⟨v4, rfl, h4⟩ := one_inv (r := sliceR (intR .i64)) rfl h4
  exact ⟨v1, v2, v3, v4, by rw [e0, e1, e2, e3, e4, f0, f1, hz, a1, a2, h]; rfl, g0, g1, h3, h4, wf_i64 h1, wf_i64 h2⟩)
theorem into_nd : Into ndR eNd := fun w S cs x ⟨v1, v2, v3, v4, h1, h2, h3, h4, h5, _⟩ => by
  subst h1
  refine ⟨rfl, fun j u av h6 h7 => ?_⟩
  match j with
  | 0 => simp at h6 h7; subst h6; subst h7; exact ⟨into_cls.slice h2, slice_one h2⟩
  | 1 => simp at h6 h7; subst h6; subst h7; exact ⟨into_int.slice h3, slice_one h3⟩
  | 2 => simp at h6 h7; subst h6; subst h7; exact ⟨.c _, rfl⟩
  | 3 => simp at h6 h7; subst h6; subst h7; exact ⟨.c _, rfl⟩
  | 4 => simp at h6 h7; subst h6; subst h7; exact ⟨into_int.slice h4, slice_one h4⟩
  | 5 => simp at h6 h7; subst h6; subst h7; exact ⟨into_int.slice h5, slice_one h5⟩
  | j + 6 => simp at h6
end
section
open Go.ChangeShapes Go.WideShapes Go.ChangeAt Go.RowKit
theorem ndB_of {w : World} {S : Nat → Prop} {cs : List Value} {n : Nd} (h : ndR.at_ w S cs n) : (∀ x ∈ n.z.cls, ok64 x.attrs) ∧ ok64 n.opn ∧ ok64 n.don ∧ ∀ x ∈ n.did, ok64 x := by
  obtain ⟨v1, v2, v3, v4, _, h2, h3, h4, h5, h6, h7⟩ := h
  exact ⟨slice_all h2 fun cs y h8 => h8.2.1, h6, h7, slice_all h4 fun cs y h8 => wf_i64 h8.2⟩
theorem rt_at {α : Type} {r : Rep α} {f : α → List AV} (h : Into r f) {w : World} {S : Nat → Prop} {cs : Array Value} {x : α} (hx : r.at_ w S cs.toList x) : RT w S (.agg cs) (.agg (f x)) := by
  obtain ⟨h1, h2⟩ := h w S cs.toList x hx
  exact .agg cs (f x) (by have := r.len hx; simp at this; omega) fun j u av h3 h4 => (h2 j u av (by simpa using h3) h4).1
end
end Go.Proofs.YtbahakgmbceflaaGreat
