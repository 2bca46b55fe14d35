/-
  Parts of the proof: Y10, EvOpen, ModOpen, CO.
-/
import Derived.Test.YtfeclebkaambhaaAtt10
import Derived.Test.YtfeclebkaambhaaProg
set_option linter.unusedVariables false
set_option linter.unusedSimpArgs false
namespace Go.Proofs.Ytfeclebkaambhaa
section
open Go.RowKit
theorem adet_of_nums {f : FuncId} {args : List AV} {t : TypeId} {l : List Int} (he : Enters Try.prog f)
    (h : ∀ (S : Nat → Prop) (w : World) (vs : Array Value), (∀ b, S b → b < w.heap.size) → vs.size = args.length → (∀ (j : Nat) (v : Value) (av : AV), vs[j]? = some v → args[j]? = some av → RT w S v av) → Calls Try.prog f vs w fun e w' => ∃ v', e = .returned v' ∧ w'.ownsRow w.heap.size t 1 v' l.length (l.map (Value.int .i64)) ∧ Below w.heap.size w w') : ADet Try.prog f args (own t 1 (l.map fun n => [eI n])) :=
  ⟨he, fun S w vs h1 h2 h3 => (h S w vs h1 h2 h3).mono fun e w' ⟨v, h4, h5, h6⟩ => by
    have hget : ∀ id o, (own t 1 (l.map fun n => [eI n])).tab.get id = some o → id = 0 ∧ o = .row t 1 (l.map fun n => [eI n]) := fun id o ho => by
      simp only [own, ATab.get_cons] at ho
      split at ho
      · cases ho
        exact ⟨by assumption, rfl⟩
      · cases ho
    refine ⟨v, fun _ => v, _, rfl, own_ok .., h4, ⟨belowX h6, fun id o ho => ?_, fun id id' o o' g h7 h8 _ _ => ?_, fun b hb => hb.elim⟩, .osl _ _ fun sz u hk => ?_⟩
    · obtain ⟨_, rfl⟩ := hget id o ho
      refine ⟨fun row hr => ?_, _, by rw [List.length_map]; exact ownsR_of h5, fun x hx => ?_, fun i j row av ha hb => ?_⟩
      · obtain ⟨n, _, rfl⟩ := List.mem_map.1 hr
        rfl
      · obtain ⟨n, _, rfl⟩ := List.mem_map.1 hx
        rfl
      · rw [List.getElem?_map] at ha
        cases hi : l[i]? with
        | none => simp [hi] at ha
        | some n =>
          simp [hi] at ha
          subst ha
          cases j with
          | zero =>
            simp at hb
            subst hb
            exact ⟨.int .i64 n, by simp [hi], .c _⟩
          | succ j => simp at hb
    · rw [(hget id o h7).1, (hget id' o' h8).1]
    · unfold Kx at hk
      cases ho : (own t 1 (l.map fun n => [eI n])).tab.get 0 with
      | none => simp [ho] at hk
      | some o => simp [ho] at hk; exact hk.2⟩
theorem refSorted_O (l : List Int) (hl : l.length ≤ 100000) : ADet Try.prog 17 [sI l] (own 2 1 ((sortR l).map fun n => [eI n])) :=
  adet_of_nums (enters_of Try.func17 rfl (by decide)) fun S w vs hS hn hv => by
    obtain ⟨a, rfl⟩ := one_arg hn
    exact refSortedO_any l a w hl (LI.of_rt (hv 0 a _ rfl rfl) hS)
set_option maxRecDepth 100000 in
set_option maxHeartbeats 8000000 in
theorem numbers11_O (l : List Inst) (hl : l.length ≤ 400) : ADet Try.prog 6 [sInsts l] (own 2 1 ((sortR (numsOf l)).map fun n => [eI n])) := by
  refine adet_of_code mixedT Try.func6 rfl (by decide) Try.ntmps6 Try.results6 rfl (own_ok _ _ _) ?_
  have hlen := numsOf_len l
  have hS := refSorted_O (numsOf l) (by omega)
  (repeat' (first | simp (maxSteps := 5000000) (implicitDefEqProofs := false) only [ruA, ruB, aEv, aTake, aLoad, aField, aIndex, aLen, aBin, bin2, aUn, un1, aExtract, aConv, ASt.get, aget, ASt.put, aStore, aBox, aAppend, aBuildSlice, aMake, aBuild, aFill, oneParts, allC, aBinS, yv, aCells, oneC, oneCL, treeC, treeL, aLit, aDst, aSrc, appTab, Value.cells, Value.oneCell', envOf, aResL, aOne, ↓reduceIte, reduceCtorEq, forall_const, Nat.reduceLT, Nat.reduceEqDiff, Nat.reduceAdd, Nat.reduceMul, Nat.reduceSub, Nat.reduceLeDiff, Nat.reduceBEq, eq_self, implies_true, ne_eq, dref, dref1, dref2, aExecS, aStoreB, aTakes, aTakeE, aElder, aFrom, aFresh, isLoad, aBuildSlice1, frzs, frz1, ownIds, AV.frz, AV.frzL, frzEnv, AV.shift, AV.shiftL, aFieldV, aSliceW, aSliceO, aSlice, aSliceR, aSliceS, aBd, aMax, frzAVs, frzAV, frzTab, AObj.frz, aMM, aNilS, aMay, tyE_22, tyK_22, tyK_3, tyF_51_0, tyA_3, tyS_3, tyF_51_1, tyF_49_0, tyF_49_1, tyA_2, tyS_2, tyR_23, tyF_51_2] | (with_reducible refine aIf_split (fun _ => ?_) (fun _ => ?_)) | (with_reducible refine aSel_split (fun _ => ?_) (fun _ => ?_)) | (with_reducible refine aGd_split (fun _ => ?_) (fun _ => ?_))))
  refine aLoop_of (fun st => ∃ k : Nat, k ≤ l.length ∧ st = ⟨59, [(0, sInsts l), (3, .osl 0), (4, eI (k : Int))], [(0, some (.row 2 1 ((numsOf (l.take k)).map fun n => [eI n])))], 1⟩) (fun st => l.length - slotN st 4) ⟨_, ((weak_nil 3 2 1 (by simp only [ruW, ASt.get, aget, ASt.put, ↓reduceIte, reduceCtorEq, Nat.reduceLT, Nat.reduceEqDiff, Nat.reduceAdd, Nat.reduceLeDiff, eq_self, implies_true, List.take_zero, numsOf, List.flatMap_nil, List.map_nil])).trans (weak_ren1 [0] ⟨(by decide), (by (first | ((simp only [envInR, tabInR, envLt, tabLt, AObj.lt, AV.lt, AV.ltL, AV.ren, AV.renL, AObj.ren, List.getD_cons_zero, List.getD_cons_succ, List.length_cons, List.length_nil, ruW, ASt.get, aget, ASt.put, ↓reduceIte, reduceCtorEq, Nat.reduceLT, Nat.reduceEqDiff, Nat.reduceAdd, Nat.reduceLeDiff, eq_self, implies_true, List.take_zero, numsOf, List.flatMap_nil, List.map_nil]) <;> (repeat' apply And.intro) <;> first | (rw [wrapK (by omega)]; done) | (simp; done) | omega) | fail))⟩)), 0, Nat.zero_le _, rfl⟩ ?_
  rintro _ ⟨k, hk, rfl⟩
  by_cases hlt : k < l.length
  · obtain ⟨x, hx⟩ : ∃ x, l[k] = x := ⟨_, rfl⟩
    have hsn : numsOf (l.take (k + 1)) = numsOf (l.take k) ++ numsAt x := by
      unfold numsOf
      rw [List.take_add_one, List.getElem?_eq_getElem hlt, hx]
      simp
    have htl : (numsOf (l.take k)).length ≤ 800 := by
      have := numsOf_len (l.take k)
      rw [List.length_take] at this
      omega
    obtain ⟨op, la, ln, ra, rn, xn, xu⟩ := x
    by_cases hc : 3 ≤ op ∧ op ≤ 8
    · have hcm : isCmp ⟨op, la, ln, ra, rn, xn, xu⟩ = true := by simp [isCmp, hc]
      have d1 : decide (op < 3) = false := by simp only [decide_eq_false_iff_not]; omega
      have d2 : decide (8 < op) = false := by simp only [decide_eq_false_iff_not]; omega
      have hna : numsAt ⟨op, la, ln, ra, rn, xn, xu⟩ = (if la = -1 then [ln] else []) ++ (if ra = -1 then [rn] else []) := by unfold numsAt; rw [if_pos hcm]
      rw [hna] at hsn
      by_cases ha : la = -1
      · have ha1 : (la == -1) = true := by simpa using ha
        by_cases hb : ra = -1
        · have hb1 : (ra == -1) = true := by simpa using hb
          rw [if_pos ha, if_pos hb] at hsn
          have hs2 : (numsOf (l.take (k + 1))).map (fun n => [eI n]) = ((numsOf (l.take k)).map (fun n => [eI n]) ++ [[eI ln]]) ++ [[eI rn]] := by rw [hsn]; simp
          (repeat' (first | simp (maxSteps := 5000000) (implicitDefEqProofs := false) only [ruA, ruB, aEv, aTake, aLoad, aField, aIndex, aLen, aBin, bin2, aUn, un1, aExtract, aConv, ASt.get, aget, ASt.put, aStore, aBox, aAppend, aBuildSlice, aMake, aBuild, aFill, oneParts, allC, aBinS, yv, aCells, oneC, oneCL, treeC, treeL, aLit, aDst, aSrc, appTab, Value.cells, Value.oneCell', envOf, aResL, aOne, ↓reduceIte, reduceCtorEq, forall_const, Nat.reduceLT, Nat.reduceEqDiff, Nat.reduceAdd, Nat.reduceMul, Nat.reduceSub, Nat.reduceLeDiff, Nat.reduceBEq, eq_self, implies_true, ne_eq, dref, dref1, dref2, aExecS, aStoreB, aTakes, aTakeE, aElder, aFrom, aFresh, isLoad, aBuildSlice1, frzs, frz1, ownIds, AV.frz, AV.frzL, frzEnv, AV.shift, AV.shiftL, aFieldV, aSliceW, aSliceO, aSlice, aSliceR, aSliceS, aBd, aMax, frzAVs, frzAV, frzTab, AObj.frz, aMM, aNilS, aMay, tyE_22, tyK_22, tyK_3, tyF_51_0, tyA_3, tyS_3, tyF_51_1, tyF_49_0, tyF_49_1, tyA_2, tyS_2, tyR_23, tyF_51_2, row_at, hlt, hx, d1, d2, ha1, hb1] | (with_reducible refine aIf_split (fun _ => ?_) (fun _ => ?_)) | (with_reducible refine aSel_split (fun _ => ?_) (fun _ => ?_)) | (with_reducible refine aGd_split (fun _ => ?_) (fun _ => ?_)) | (with_reducible refine aDraw_quiet (by kernel_rfl) ?_) | (with_reducible apply And.intro)))
          all_goals first
            | rfl
            | omega
            | (simp; omega)
            | exact roundI (weak_ren1 [4] ⟨(by decide), (by (first | ((simp only [envInR, tabInR, envLt, tabLt, AObj.lt, AV.lt, AV.ltL, AV.ren, AV.renL, AObj.ren, List.getD_cons_zero, List.getD_cons_succ, List.length_cons, List.length_nil, ruW, ASt.get, aget, ASt.put, ↓reduceIte, reduceCtorEq, Nat.reduceLT, Nat.reduceEqDiff, Nat.reduceAdd, Nat.reduceLeDiff, eq_self, implies_true, hs2]) <;> (repeat' apply And.intro) <;> first | (rw [wrapK (by omega)]; done) | (simp; done) | omega) | fail))⟩) ⟨k + 1, by omega, rfl⟩ (by simp only [slotN, ruW, ASt.get, aget, ASt.put, ↓reduceIte, reduceCtorEq, Nat.reduceLT, Nat.reduceEqDiff, Nat.reduceAdd, Nat.reduceLeDiff, eq_self, implies_true]; omega)
            | trace_state
        · have hb1 : (ra == -1) = false := by simpa using hb
          rw [if_pos ha, if_neg hb] at hsn
          have hs2 : (numsOf (l.take (k + 1))).map (fun n => [eI n]) = (numsOf (l.take k)).map (fun n => [eI n]) ++ [[eI ln]] := by rw [hsn]; simp
          (repeat' (first | simp (maxSteps := 5000000) (implicitDefEqProofs := false) only [ruA, ruB, aEv, aTake, aLoad, aField, aIndex, aLen, aBin, bin2, aUn, un1, aExtract, aConv, ASt.get, aget, ASt.put, aStore, aBox, aAppend, aBuildSlice, aMake, aBuild, aFill, oneParts, allC, aBinS, yv, aCells, oneC, oneCL, treeC, treeL, aLit, aDst, aSrc, appTab, Value.cells, Value.oneCell', envOf, aResL, aOne, ↓reduceIte, reduceCtorEq, forall_const, Nat.reduceLT, Nat.reduceEqDiff, Nat.reduceAdd, Nat.reduceMul, Nat.reduceSub, Nat.reduceLeDiff, Nat.reduceBEq, eq_self, implies_true, ne_eq, dref, dref1, dref2, aExecS, aStoreB, aTakes, aTakeE, aElder, aFrom, aFresh, isLoad, aBuildSlice1, frzs, frz1, ownIds, AV.frz, AV.frzL, frzEnv, AV.shift, AV.shiftL, aFieldV, aSliceW, aSliceO, aSlice, aSliceR, aSliceS, aBd, aMax, frzAVs, frzAV, frzTab, AObj.frz, aMM, aNilS, aMay, tyE_22, tyK_22, tyK_3, tyF_51_0, tyA_3, tyS_3, tyF_51_1, tyF_49_0, tyF_49_1, tyA_2, tyS_2, tyR_23, tyF_51_2, row_at, hlt, hx, d1, d2, ha1, hb1] | (with_reducible refine aIf_split (fun _ => ?_) (fun _ => ?_)) | (with_reducible refine aSel_split (fun _ => ?_) (fun _ => ?_)) | (with_reducible refine aGd_split (fun _ => ?_) (fun _ => ?_)) | (with_reducible refine aDraw_quiet (by kernel_rfl) ?_) | (with_reducible apply And.intro)))
          all_goals first
            | rfl
            | omega
            | (simp; omega)
            | exact roundI (weak_ren1 [2] ⟨(by decide), (by (first | ((simp only [envInR, tabInR, envLt, tabLt, AObj.lt, AV.lt, AV.ltL, AV.ren, AV.renL, AObj.ren, List.getD_cons_zero, List.getD_cons_succ, List.length_cons, List.length_nil, ruW, ASt.get, aget, ASt.put, ↓reduceIte, reduceCtorEq, Nat.reduceLT, Nat.reduceEqDiff, Nat.reduceAdd, Nat.reduceLeDiff, eq_self, implies_true, hs2]) <;> (repeat' apply And.intro) <;> first | (rw [wrapK (by omega)]; done) | (simp; done) | omega) | fail))⟩) ⟨k + 1, by omega, rfl⟩ (by simp only [slotN, ruW, ASt.get, aget, ASt.put, ↓reduceIte, reduceCtorEq, Nat.reduceLT, Nat.reduceEqDiff, Nat.reduceAdd, Nat.reduceLeDiff, eq_self, implies_true]; omega)
            | trace_state
      · have ha1 : (la == -1) = false := by simpa using ha
        by_cases hb : ra = -1
        · have hb1 : (ra == -1) = true := by simpa using hb
          rw [if_neg ha, if_pos hb] at hsn
          have hs2 : (numsOf (l.take (k + 1))).map (fun n => [eI n]) = (numsOf (l.take k)).map (fun n => [eI n]) ++ [[eI rn]] := by rw [hsn]; simp
          (repeat' (first | simp (maxSteps := 5000000) (implicitDefEqProofs := false) only [ruA, ruB, aEv, aTake, aLoad, aField, aIndex, aLen, aBin, bin2, aUn, un1, aExtract, aConv, ASt.get, aget, ASt.put, aStore, aBox, aAppend, aBuildSlice, aMake, aBuild, aFill, oneParts, allC, aBinS, yv, aCells, oneC, oneCL, treeC, treeL, aLit, aDst, aSrc, appTab, Value.cells, Value.oneCell', envOf, aResL, aOne, ↓reduceIte, reduceCtorEq, forall_const, Nat.reduceLT, Nat.reduceEqDiff, Nat.reduceAdd, Nat.reduceMul, Nat.reduceSub, Nat.reduceLeDiff, Nat.reduceBEq, eq_self, implies_true, ne_eq, dref, dref1, dref2, aExecS, aStoreB, aTakes, aTakeE, aElder, aFrom, aFresh, isLoad, aBuildSlice1, frzs, frz1, ownIds, AV.frz, AV.frzL, frzEnv, AV.shift, AV.shiftL, aFieldV, aSliceW, aSliceO, aSlice, aSliceR, aSliceS, aBd, aMax, frzAVs, frzAV, frzTab, AObj.frz, aMM, aNilS, aMay, tyE_22, tyK_22, tyK_3, tyF_51_0, tyA_3, tyS_3, tyF_51_1, tyF_49_0, tyF_49_1, tyA_2, tyS_2, tyR_23, tyF_51_2, row_at, hlt, hx, d1, d2, ha1, hb1] | (with_reducible refine aIf_split (fun _ => ?_) (fun _ => ?_)) | (with_reducible refine aSel_split (fun _ => ?_) (fun _ => ?_)) | (with_reducible refine aGd_split (fun _ => ?_) (fun _ => ?_)) | (with_reducible refine aDraw_quiet (by kernel_rfl) ?_) | (with_reducible apply And.intro)))
          all_goals first
            | rfl
            | omega
            | (simp; omega)
            | exact roundI (weak_ren1 [2] ⟨(by decide), (by (first | ((simp only [envInR, tabInR, envLt, tabLt, AObj.lt, AV.lt, AV.ltL, AV.ren, AV.renL, AObj.ren, List.getD_cons_zero, List.getD_cons_succ, List.length_cons, List.length_nil, ruW, ASt.get, aget, ASt.put, ↓reduceIte, reduceCtorEq, Nat.reduceLT, Nat.reduceEqDiff, Nat.reduceAdd, Nat.reduceLeDiff, eq_self, implies_true, hs2]) <;> (repeat' apply And.intro) <;> first | (rw [wrapK (by omega)]; done) | (simp; done) | omega) | fail))⟩) ⟨k + 1, by omega, rfl⟩ (by simp only [slotN, ruW, ASt.get, aget, ASt.put, ↓reduceIte, reduceCtorEq, Nat.reduceLT, Nat.reduceEqDiff, Nat.reduceAdd, Nat.reduceLeDiff, eq_self, implies_true]; omega)
            | trace_state
        · have hb1 : (ra == -1) = false := by simpa using hb
          rw [if_neg ha, if_neg hb] at hsn
          have hs2 : (numsOf (l.take (k + 1))).map (fun n => [eI n]) = (numsOf (l.take k)).map (fun n => [eI n]) := by rw [hsn]; simp
          (repeat' (first | simp (maxSteps := 5000000) (implicitDefEqProofs := false) only [ruA, ruB, aEv, aTake, aLoad, aField, aIndex, aLen, aBin, bin2, aUn, un1, aExtract, aConv, ASt.get, aget, ASt.put, aStore, aBox, aAppend, aBuildSlice, aMake, aBuild, aFill, oneParts, allC, aBinS, yv, aCells, oneC, oneCL, treeC, treeL, aLit, aDst, aSrc, appTab, Value.cells, Value.oneCell', envOf, aResL, aOne, ↓reduceIte, reduceCtorEq, forall_const, Nat.reduceLT, Nat.reduceEqDiff, Nat.reduceAdd, Nat.reduceMul, Nat.reduceSub, Nat.reduceLeDiff, Nat.reduceBEq, eq_self, implies_true, ne_eq, dref, dref1, dref2, aExecS, aStoreB, aTakes, aTakeE, aElder, aFrom, aFresh, isLoad, aBuildSlice1, frzs, frz1, ownIds, AV.frz, AV.frzL, frzEnv, AV.shift, AV.shiftL, aFieldV, aSliceW, aSliceO, aSlice, aSliceR, aSliceS, aBd, aMax, frzAVs, frzAV, frzTab, AObj.frz, aMM, aNilS, aMay, tyE_22, tyK_22, tyK_3, tyF_51_0, tyA_3, tyS_3, tyF_51_1, tyF_49_0, tyF_49_1, tyA_2, tyS_2, tyR_23, tyF_51_2, row_at, hlt, hx, d1, d2, ha1, hb1] | (with_reducible refine aIf_split (fun _ => ?_) (fun _ => ?_)) | (with_reducible refine aSel_split (fun _ => ?_) (fun _ => ?_)) | (with_reducible refine aGd_split (fun _ => ?_) (fun _ => ?_)) | (with_reducible refine aDraw_quiet (by kernel_rfl) ?_)))
          exact roundI (weak_cut1 (by (first | ((simp only [envIn, tabIn, envLt, tabLt, AObj.lt, AV.lt, AV.ltL, ruW, ASt.get, aget, ASt.put, ↓reduceIte, reduceCtorEq, Nat.reduceLT, Nat.reduceEqDiff, Nat.reduceAdd, Nat.reduceLeDiff, eq_self, implies_true, hs2]) <;> (repeat' apply And.intro) <;> first | (rw [wrapK (by omega)]; done) | (simp; done) | omega) | fail))) ⟨k + 1, by omega, rfl⟩ (by simp only [slotN, ruW, ASt.get, aget, ASt.put, ↓reduceIte, reduceCtorEq, Nat.reduceLT, Nat.reduceEqDiff, Nat.reduceAdd, Nat.reduceLeDiff, eq_self, implies_true]; omega)
    · have hcm : isCmp ⟨op, la, ln, ra, rn, xn, xu⟩ = false := by
        rw [Bool.eq_false_iff]
        intro h
        exact hc (by simpa [isCmp] using h)
      have hna : numsAt ⟨op, la, ln, ra, rn, xn, xu⟩ = [] := by unfold numsAt; rw [if_neg (by simp [hcm])]
      rw [hna, List.append_nil] at hsn
      have hs2 : (numsOf (l.take (k + 1))).map (fun n => [eI n]) = (numsOf (l.take k)).map (fun n => [eI n]) := by rw [hsn]
      (repeat' (first | simp (maxSteps := 5000000) (implicitDefEqProofs := false) only [ruA, ruB, aEv, aTake, aLoad, aField, aIndex, aLen, aBin, bin2, aUn, un1, aExtract, aConv, ASt.get, aget, ASt.put, aStore, aBox, aAppend, aBuildSlice, aMake, aBuild, aFill, oneParts, allC, aBinS, yv, aCells, oneC, oneCL, treeC, treeL, aLit, aDst, aSrc, appTab, Value.cells, Value.oneCell', envOf, aResL, aOne, ↓reduceIte, reduceCtorEq, forall_const, Nat.reduceLT, Nat.reduceEqDiff, Nat.reduceAdd, Nat.reduceMul, Nat.reduceSub, Nat.reduceLeDiff, Nat.reduceBEq, eq_self, implies_true, ne_eq, dref, dref1, dref2, aExecS, aStoreB, aTakes, aTakeE, aElder, aFrom, aFresh, isLoad, aBuildSlice1, frzs, frz1, ownIds, AV.frz, AV.frzL, frzEnv, AV.shift, AV.shiftL, aFieldV, aSliceW, aSliceO, aSlice, aSliceR, aSliceS, aBd, aMax, frzAVs, frzAV, frzTab, AObj.frz, aMM, aNilS, aMay, tyE_22, tyK_22, tyK_3, tyF_51_0, tyA_3, tyS_3, tyF_51_1, tyF_49_0, tyF_49_1, tyA_2, tyS_2, tyR_23, tyF_51_2, row_at, hlt, hx] | (with_reducible refine aIf_split (fun _ => ?_) (fun _ => ?_)) | (with_reducible refine aSel_split (fun _ => ?_) (fun _ => ?_)) | (with_reducible refine aGd_split (fun _ => ?_) (fun _ => ?_)) | (with_reducible refine aDraw_quiet (by kernel_rfl) ?_)))
      all_goals first
        | exact roundI (weak_cut1 (by (first | ((simp only [envIn, tabIn, envLt, tabLt, AObj.lt, AV.lt, AV.ltL, ruW, ASt.get, aget, ASt.put, ↓reduceIte, reduceCtorEq, Nat.reduceLT, Nat.reduceEqDiff, Nat.reduceAdd, Nat.reduceLeDiff, eq_self, implies_true, hs2]) <;> (repeat' apply And.intro) <;> first | (rw [wrapK (by omega)]; done) | (simp; done) | omega) | fail))) ⟨k + 1, by omega, rfl⟩ (by simp only [slotN, ruW, ASt.get, aget, ASt.put, ↓reduceIte, reduceCtorEq, Nat.reduceLT, Nat.reduceEqDiff, Nat.reduceAdd, Nat.reduceLeDiff, eq_self, implies_true]; omega)
        | (exfalso; simp at *; omega)
        | trace_state
  · obtain rfl : k = l.length := by omega
    (repeat' (first | simp (maxSteps := 5000000) (implicitDefEqProofs := false) only [ruA, ruB, aEv, aTake, aLoad, aField, aIndex, aLen, aBin, bin2, aUn, un1, aExtract, aConv, ASt.get, aget, ASt.put, aStore, aBox, aAppend, aBuildSlice, aMake, aBuild, aFill, oneParts, allC, aBinS, yv, aCells, oneC, oneCL, treeC, treeL, aLit, aDst, aSrc, appTab, Value.cells, Value.oneCell', envOf, aResL, aOne, ↓reduceIte, reduceCtorEq, forall_const, Nat.reduceLT, Nat.reduceEqDiff, Nat.reduceAdd, Nat.reduceMul, Nat.reduceSub, Nat.reduceLeDiff, Nat.reduceBEq, eq_self, implies_true, ne_eq, dref, dref1, dref2, aExecS, aStoreB, aTakes, aTakeE, aElder, aFrom, aFresh, isLoad, aBuildSlice1, frzs, frz1, ownIds, AV.frz, AV.frzL, frzEnv, AV.shift, AV.shiftL, aFieldV, aSliceW, aSliceO, aSlice, aSliceR, aSliceS, aBd, aMax, frzAVs, frzAV, frzTab, AObj.frz, aMM, aNilS, aMay, tyE_22, tyK_22, tyK_3, tyF_51_0, tyA_3, tyS_3, tyF_51_1, tyF_49_0, tyF_49_1, tyA_2, tyS_2, tyR_23, tyF_51_2, hlt, List.take_length] | (with_reducible refine aIf_split (fun _ => ?_) (fun _ => ?_)) | (with_reducible refine aSel_split (fun _ => ?_) (fun _ => ?_)) | (with_reducible refine aGd_split (fun _ => ?_) (fun _ => ?_))))
    refine callZ [0] (R := own 2 1 ((sortR (numsOf l)).map fun n => [eI n])) ?_ ?_ ?_
    · simp (maxSteps := 5000000) (implicitDefEqProofs := false) only [ruA, ruB, aEv, aTake, aLoad, aField, aIndex, aLen, aBin, bin2, aUn, un1, aExtract, aConv, ASt.get, aget, ASt.put, aStore, aBox, aAppend, aBuildSlice, aMake, aBuild, aFill, oneParts, allC, aBinS, yv, aCells, oneC, oneCL, treeC, treeL, aLit, aDst, aSrc, appTab, Value.cells, Value.oneCell', envOf, aResL, aOne, ↓reduceIte, reduceCtorEq, forall_const, Nat.reduceLT, Nat.reduceEqDiff, Nat.reduceAdd, Nat.reduceMul, Nat.reduceSub, Nat.reduceLeDiff, Nat.reduceBEq, eq_self, implies_true, ne_eq, dref, dref1, dref2, aExecS, aStoreB, aTakes, aTakeE, aElder, aFrom, aFresh, isLoad, aBuildSlice1, frzs, frz1, ownIds, AV.frz, AV.frzL, frzEnv, AV.shift, AV.shiftL, aFieldV, aSliceW, aSliceO, aSlice, aSliceR, aSliceS, aBd, aMax, frzAVs, frzAV, frzTab, AObj.frz, aMM, aNilS, aMay, tyE_22, tyK_22, tyK_3, tyF_51_0, tyA_3, tyS_3, tyF_51_1, tyF_49_0, tyF_49_1, tyA_2, tyS_2, tyR_23, tyF_51_2]
      exact hS
    · simp (maxSteps := 5000000) (implicitDefEqProofs := false) only [ruA, ruB, aEv, aTake, aLoad, aField, aIndex, aLen, aBin, bin2, aUn, un1, aExtract, aConv, ASt.get, aget, ASt.put, aStore, aBox, aAppend, aBuildSlice, aMake, aBuild, aFill, oneParts, allC, aBinS, yv, aCells, oneC, oneCL, treeC, treeL, aLit, aDst, aSrc, appTab, Value.cells, Value.oneCell', envOf, aResL, aOne, ↓reduceIte, reduceCtorEq, forall_const, Nat.reduceLT, Nat.reduceEqDiff, Nat.reduceAdd, Nat.reduceMul, Nat.reduceSub, Nat.reduceLeDiff, Nat.reduceBEq, eq_self, implies_true, ne_eq, dref, dref1, dref2, aExecS, aStoreB, aTakes, aTakeE, aElder, aFrom, aFresh, isLoad, aBuildSlice1, frzs, frz1, ownIds, AV.frz, AV.frzL, frzEnv, AV.shift, AV.shiftL, aFieldV, aSliceW, aSliceO, aSlice, aSliceR, aSliceS, aBd, aMax, frzAVs, frzAV, frzTab, AObj.frz, aMM, aNilS, aMay, tyE_22, tyK_22, tyK_3, tyF_51_0, tyA_3, tyS_3, tyF_51_1, tyF_49_0, tyF_49_1, tyA_2, tyS_2, tyR_23, tyF_51_2]
      left
      simp [roL, roA, treeL, treeC]
    · (repeat' (first | simp (maxSteps := 5000000) (implicitDefEqProofs := false) only [ruA, ruB, aEv, aTake, aLoad, aField, aIndex, aLen, aBin, bin2, aUn, un1, aExtract, aConv, ASt.get, aget, ASt.put, aStore, aBox, aAppend, aBuildSlice, aMake, aBuild, aFill, oneParts, allC, aBinS, yv, aCells, oneC, oneCL, treeC, treeL, aLit, aDst, aSrc, appTab, Value.cells, Value.oneCell', envOf, aResL, aOne, ↓reduceIte, reduceCtorEq, forall_const, Nat.reduceLT, Nat.reduceEqDiff, Nat.reduceAdd, Nat.reduceMul, Nat.reduceSub, Nat.reduceLeDiff, Nat.reduceBEq, eq_self, implies_true, ne_eq, dref, dref1, dref2, aExecS, aStoreB, aTakes, aTakeE, aElder, aFrom, aFresh, isLoad, aBuildSlice1, frzs, frz1, ownIds, AV.frz, AV.frzL, frzEnv, AV.shift, AV.shiftL, aFieldV, aSliceW, aSliceO, aSlice, aSliceR, aSliceS, aBd, aMax, frzAVs, frzAV, frzTab, AObj.frz, aMM, aNilS, aMay, tyE_22, tyK_22, tyK_3, tyF_51_0, tyA_3, tyS_3, tyF_51_1, tyF_49_0, tyF_49_1, tyA_2, tyS_2, tyR_23, tyF_51_2] | (with_reducible refine aIf_split (fun _ => ?_) (fun _ => ?_)) | (with_reducible refine aSel_split (fun _ => ?_) (fun _ => ?_)) | (with_reducible refine aGd_split (fun _ => ?_) (fun _ => ?_)) | (with_reducible refine aDraw_quiet (by kernel_rfl) ?_)))
      all_goals exact aGives_own (by simp [own, ATab.get_cons, ATab.shift, AObj.shift, AV.shift])
set_option maxRecDepth 100000 in
set_option maxHeartbeats 8000000 in
theorem consts_O (m : Mod) (p : List Inst) (hp : p.length ≤ 400) (hg : m.guards.length ≤ 14) (hm : m.miles.length ≤ 10) (hgc : ∀ g ∈ m.guards, g.cond.length ≤ 80) (hmc : ∀ g ∈ m.miles, g.cond.length ≤ 80) : ADet Try.prog 13 [.agg (eMod m), sInsts p] (own 2 1 ((constsM m p).map fun n => [eI n])) := by
  refine adet_of_code mixedT Try.func13 rfl (by decide) Try.ntmps13 Try.results13 rfl (own_ok _ _ _) ?_
  have hN : ADet Try.prog 6 [sInsts p] ⟨sI (condN p), [], 0⟩ := numbers11_A p hp
  have hpl := condN_len p hp
  obtain ⟨f, hf⟩ : ∃ f, f = fun g : Gd => condN g.cond := ⟨_, rfl⟩
  obtain ⟨g2, hg2⟩ : ∃ f, f = fun g : Ml => condN g.cond := ⟨_, rfl⟩
  have hfl : ∀ k, ((m.guards.take k).flatMap f).length ≤ 11200 := fun k => by
    have h1 := flatN_len f (m.guards.take k) fun x hx => by
      rw [hf]
      exact condN_len _ (by have := hgc x (List.mem_of_mem_take hx); omega)
    rw [List.length_take] at h1
    omega
  have hgl : ∀ k, ((m.miles.take k).flatMap g2).length ≤ 8000 := fun k => by
    have h1 := flatN_len g2 (m.miles.take k) fun x hx => by
      rw [hg2]
      exact condN_len _ (by have := hmc x (List.mem_of_mem_take hx); omega)
    rw [List.length_take] at h1
    omega
  have hC : constsM m p = sortR ((condN p ++ m.guards.flatMap f) ++ m.miles.flatMap g2) := by rw [hf, hg2]; rfl
  rw [hC]
  have hlt1 : (condN p ++ m.guards.flatMap f).length ≤ 12000 := by
    have := hfl m.guards.length
    rw [List.take_length] at this
    rw [List.length_append]
    omega
  have hlt2 : ((condN p ++ m.guards.flatMap f) ++ m.miles.flatMap g2).length ≤ 20000 := by
    have := hgl m.miles.length
    rw [List.take_length] at this
    rw [List.length_append]
    omega
  have hS := refSorted_O ((condN p ++ m.guards.flatMap f) ++ m.miles.flatMap g2) (by omega)
  (repeat' (first | simp (maxSteps := 5000000) (implicitDefEqProofs := false) only [ruA, ruB, aEv, aTake, aLoad, aField, aIndex, aLen, aBin, bin2, aUn, un1, aExtract, aConv, ASt.get, aget, ASt.put, aStore, aBox, aAppend, aBuildSlice, aMake, aBuild, aFill, oneParts, allC, aBinS, yv, aCells, oneC, oneCL, treeC, treeL, aLit, aDst, aSrc, appTab, Value.cells, Value.oneCell', envOf, aResL, aOne, ↓reduceIte, reduceCtorEq, forall_const, Nat.reduceLT, Nat.reduceEqDiff, Nat.reduceAdd, Nat.reduceMul, Nat.reduceSub, Nat.reduceLeDiff, Nat.reduceBEq, eq_self, implies_true, ne_eq, dref, dref1, dref2, aExecS, aStoreB, aTakes, aTakeE, aElder, aFrom, aFresh, isLoad, aBuildSlice1, frzs, frz1, ownIds, AV.frz, AV.frzL, frzEnv, AV.shift, AV.shiftL, aFieldV, aSliceW, aSliceO, aSlice, aSliceR, aSliceS, aBd, aMax, frzAVs, frzAV, frzTab, AObj.frz, aMM, aNilS, aMay, tyR_23, tyF_47_6, tyA_42, tyS_42, tyE_42, tyK_42, tyK_3, tyF_78_2, tyA_22, tyS_22, tyF_47_7, tyA_43, tyS_43, tyE_43, tyK_43, tyF_80_3] | (with_reducible refine aIf_split (fun _ => ?_) (fun _ => ?_)) | (with_reducible refine aSel_split (fun _ => ?_) (fun _ => ?_)) | (with_reducible refine aGd_split (fun _ => ?_) (fun _ => ?_)) | (with_reducible refine aDraw_quiet (by kernel_rfl) ?_) | ((with_reducible apply callT); exact (hN); exact (.inl (by simp [roL, roA, treeL, treeC]))) | (with_reducible apply And.intro)))
  all_goals first
    | rfl
    | omega
    | skip
  refine aLoop_of (fun st => ∃ k : Nat, k ≤ m.guards.length ∧ st = ⟨46, [(2, .op 0 0 0), (5, .osl 1), (6, eI (k : Int))], [(0, some (.box 47 (eMod m))), (1, some (.row 2 1 ((condN p ++ (m.guards.take k).flatMap f).map fun n => [eI n])))], 2⟩) (fun st => m.guards.length - slotN st 6) ⟨_, (weak_ren1 [0, 2] ⟨(by decide), (by (first | ((simp only [envInR, tabInR, envLt, tabLt, AObj.lt, AV.lt, AV.ltL, AV.ren, AV.renL, AObj.ren, List.getD_cons_zero, List.getD_cons_succ, List.length_cons, List.length_nil, ruW, ASt.get, aget, ASt.put, ↓reduceIte, reduceCtorEq, Nat.reduceLT, Nat.reduceEqDiff, Nat.reduceAdd, Nat.reduceLeDiff, eq_self, implies_true, List.take_zero, List.flatMap_nil, List.append_nil, List.nil_append]) <;> (repeat' apply And.intro) <;> first | (rw [wrapK (by omega)]; done) | (simp; done) | omega) | fail))⟩), 0, Nat.zero_le _, rfl⟩ ?_
  rintro _ ⟨k, hk, rfl⟩
  by_cases hlt : k < m.guards.length
  · obtain ⟨x, hx⟩ : ∃ x, m.guards[k] = x := ⟨_, rfl⟩
    have hxc := hgc x (hx ▸ List.getElem_mem hlt)
    have hNx : ADet Try.prog 6 [sInsts x.cond] ⟨sI (condN x.cond), [], 0⟩ := numbers11_A x.cond (by omega)
    have hsn : (condN p ++ (m.guards.take (k + 1)).flatMap f).map (fun n => [eI n]) = (condN p ++ (m.guards.take k).flatMap f).map (fun n => [eI n]) ++ (condN x.cond).map (fun n => [eI n]) := by
      rw [flatN_snoc f _ hlt, hx, ← List.append_assoc, List.map_append, hf]
    have hl1 : (condN p ++ (m.guards.take k).flatMap f).length ≤ 12000 := by have := hfl k; rw [List.length_append]; omega
    have hl2 := condN_len x.cond (by omega)
    (repeat' (first | simp (maxSteps := 5000000) (implicitDefEqProofs := false) only [ruA, ruB, aEv, aTake, aLoad, aField, aIndex, aLen, aBin, bin2, aUn, un1, aExtract, aConv, ASt.get, aget, ASt.put, aStore, aBox, aAppend, aBuildSlice, aMake, aBuild, aFill, oneParts, allC, aBinS, yv, aCells, oneC, oneCL, treeC, treeL, aLit, aDst, aSrc, appTab, Value.cells, Value.oneCell', envOf, aResL, aOne, ↓reduceIte, reduceCtorEq, forall_const, Nat.reduceLT, Nat.reduceEqDiff, Nat.reduceAdd, Nat.reduceMul, Nat.reduceSub, Nat.reduceLeDiff, Nat.reduceBEq, eq_self, implies_true, ne_eq, dref, dref1, dref2, aExecS, aStoreB, aTakes, aTakeE, aElder, aFrom, aFresh, isLoad, aBuildSlice1, frzs, frz1, ownIds, AV.frz, AV.frzL, frzEnv, AV.shift, AV.shiftL, aFieldV, aSliceW, aSliceO, aSlice, aSliceR, aSliceS, aBd, aMax, frzAVs, frzAV, frzTab, AObj.frz, aMM, aNilS, aMay, tyR_23, tyF_47_6, tyA_42, tyS_42, tyE_42, tyK_42, tyK_3, tyF_78_2, tyA_22, tyS_22, tyF_47_7, tyA_43, tyS_43, tyE_43, tyK_43, tyF_80_3, row_at, hlt, hx] | (with_reducible refine aIf_split (fun _ => ?_) (fun _ => ?_)) | (with_reducible refine aSel_split (fun _ => ?_) (fun _ => ?_)) | (with_reducible refine aGd_split (fun _ => ?_) (fun _ => ?_)) | (with_reducible refine aDraw_quiet (by kernel_rfl) ?_) | ((with_reducible apply callT); exact (hNx); exact (.inl (by simp [roL, roA, treeL, treeC]))) | (with_reducible apply And.intro)))
    all_goals first
      | rfl
      | omega
      | exact roundI (weak_ren1 [0, 2] ⟨(by decide), (by (first | ((simp only [envInR, tabInR, envLt, tabLt, AObj.lt, AV.lt, AV.ltL, AV.ren, AV.renL, AObj.ren, List.getD_cons_zero, List.getD_cons_succ, List.length_cons, List.length_nil, ruW, ASt.get, aget, ASt.put, ↓reduceIte, reduceCtorEq, Nat.reduceLT, Nat.reduceEqDiff, Nat.reduceAdd, Nat.reduceLeDiff, eq_self, implies_true, hsn]) <;> (repeat' apply And.intro) <;> first | (rw [wrapK (by omega)]; done) | (simp; done) | omega) | fail))⟩) ⟨k + 1, by omega, rfl⟩ (by simp only [slotN, ruW, ASt.get, aget, ASt.put, ↓reduceIte, reduceCtorEq, Nat.reduceLT, Nat.reduceEqDiff, Nat.reduceAdd, Nat.reduceLeDiff, eq_self, implies_true]; omega)
      | trace_state
  · obtain rfl : k = m.guards.length := by omega
    rw [List.take_length]
    obtain ⟨O, hO⟩ : ∃ O, condN p ++ m.guards.flatMap f = O := ⟨_, rfl⟩
    rw [hO] at hlt1 hlt2 hS ⊢
    (repeat' (first | simp (maxSteps := 5000000) (implicitDefEqProofs := false) only [ruA, ruB, aEv, aTake, aLoad, aField, aIndex, aLen, aBin, bin2, aUn, un1, aExtract, aConv, ASt.get, aget, ASt.put, aStore, aBox, aAppend, aBuildSlice, aMake, aBuild, aFill, oneParts, allC, aBinS, yv, aCells, oneC, oneCL, treeC, treeL, aLit, aDst, aSrc, appTab, Value.cells, Value.oneCell', envOf, aResL, aOne, ↓reduceIte, reduceCtorEq, forall_const, Nat.reduceLT, Nat.reduceEqDiff, Nat.reduceAdd, Nat.reduceMul, Nat.reduceSub, Nat.reduceLeDiff, Nat.reduceBEq, eq_self, implies_true, ne_eq, dref, dref1, dref2, aExecS, aStoreB, aTakes, aTakeE, aElder, aFrom, aFresh, isLoad, aBuildSlice1, frzs, frz1, ownIds, AV.frz, AV.frzL, frzEnv, AV.shift, AV.shiftL, aFieldV, aSliceW, aSliceO, aSlice, aSliceR, aSliceS, aBd, aMax, frzAVs, frzAV, frzTab, AObj.frz, aMM, aNilS, aMay, tyR_23, tyF_47_6, tyA_42, tyS_42, tyE_42, tyK_42, tyK_3, tyF_78_2, tyA_22, tyS_22, tyF_47_7, tyA_43, tyS_43, tyE_43, tyK_43, tyF_80_3, hlt] | (with_reducible refine aIf_split (fun _ => ?_) (fun _ => ?_)) | (with_reducible refine aSel_split (fun _ => ?_) (fun _ => ?_)) | (with_reducible refine aGd_split (fun _ => ?_) (fun _ => ?_)) | (with_reducible refine aDraw_quiet (by kernel_rfl) ?_)))
    refine aLoop_of (fun st => ∃ k : Nat, k ≤ m.miles.length ∧ st = ⟨46, [(2, .op 0 0 0), (5, .osl 1), (7, eI (k : Int))], [(0, some (.box 47 (eMod m))), (1, some (.row 2 1 ((O ++ (m.miles.take k).flatMap g2).map fun n => [eI n])))], 2⟩) (fun st => m.miles.length - slotN st 7) ⟨_, (weak_cut1 (by (first | ((simp only [envIn, tabIn, envLt, tabLt, AObj.lt, AV.lt, AV.ltL, ruW, ASt.get, aget, ASt.put, ↓reduceIte, reduceCtorEq, Nat.reduceLT, Nat.reduceEqDiff, Nat.reduceAdd, Nat.reduceLeDiff, eq_self, implies_true, List.take_zero, List.flatMap_nil, List.append_nil]) <;> (repeat' apply And.intro) <;> first | (rw [wrapK (by omega)]; done) | (simp; done) | omega) | fail))), 0, Nat.zero_le _, rfl⟩ ?_
    rintro _ ⟨k, hk2, rfl⟩
    by_cases hlt3 : k < m.miles.length
    · obtain ⟨x, hx⟩ : ∃ x, m.miles[k] = x := ⟨_, rfl⟩
      have hxc := hmc x (hx ▸ List.getElem_mem hlt3)
      have hNx : ADet Try.prog 6 [sInsts x.cond] ⟨sI (condN x.cond), [], 0⟩ := numbers11_A x.cond (by omega)
      have hsn : (O ++ (m.miles.take (k + 1)).flatMap g2).map (fun n => [eI n]) = (O ++ (m.miles.take k).flatMap g2).map (fun n => [eI n]) ++ (condN x.cond).map (fun n => [eI n]) := by
        rw [flatN_snoc g2 _ hlt3, hx, ← List.append_assoc, List.map_append, hg2]
      have hl1 : (O ++ (m.miles.take k).flatMap g2).length ≤ 20000 := by have := hgl k; rw [List.length_append]; omega
      have hl2 := condN_len x.cond (by omega)
      (repeat' (first | simp (maxSteps := 5000000) (implicitDefEqProofs := false) only [ruA, ruB, aEv, aTake, aLoad, aField, aIndex, aLen, aBin, bin2, aUn, un1, aExtract, aConv, ASt.get, aget, ASt.put, aStore, aBox, aAppend, aBuildSlice, aMake, aBuild, aFill, oneParts, allC, aBinS, yv, aCells, oneC, oneCL, treeC, treeL, aLit, aDst, aSrc, appTab, Value.cells, Value.oneCell', envOf, aResL, aOne, ↓reduceIte, reduceCtorEq, forall_const, Nat.reduceLT, Nat.reduceEqDiff, Nat.reduceAdd, Nat.reduceMul, Nat.reduceSub, Nat.reduceLeDiff, Nat.reduceBEq, eq_self, implies_true, ne_eq, dref, dref1, dref2, aExecS, aStoreB, aTakes, aTakeE, aElder, aFrom, aFresh, isLoad, aBuildSlice1, frzs, frz1, ownIds, AV.frz, AV.frzL, frzEnv, AV.shift, AV.shiftL, aFieldV, aSliceW, aSliceO, aSlice, aSliceR, aSliceS, aBd, aMax, frzAVs, frzAV, frzTab, AObj.frz, aMM, aNilS, aMay, tyR_23, tyF_47_6, tyA_42, tyS_42, tyE_42, tyK_42, tyK_3, tyF_78_2, tyA_22, tyS_22, tyF_47_7, tyA_43, tyS_43, tyE_43, tyK_43, tyF_80_3, row_at, hlt3, hx] | (with_reducible refine aIf_split (fun _ => ?_) (fun _ => ?_)) | (with_reducible refine aSel_split (fun _ => ?_) (fun _ => ?_)) | (with_reducible refine aGd_split (fun _ => ?_) (fun _ => ?_)) | (with_reducible refine aDraw_quiet (by kernel_rfl) ?_) | ((with_reducible apply callT); exact (hNx); exact (.inl (by simp [roL, roA, treeL, treeC]))) | (with_reducible apply And.intro)))
      all_goals first
        | rfl
        | omega
        | exact roundI (weak_ren1 [0, 2] ⟨(by decide), (by (first | ((simp only [envInR, tabInR, envLt, tabLt, AObj.lt, AV.lt, AV.ltL, AV.ren, AV.renL, AObj.ren, List.getD_cons_zero, List.getD_cons_succ, List.length_cons, List.length_nil, ruW, ASt.get, aget, ASt.put, ↓reduceIte, reduceCtorEq, Nat.reduceLT, Nat.reduceEqDiff, Nat.reduceAdd, Nat.reduceLeDiff, eq_self, implies_true, hsn]) <;> (repeat' apply And.intro) <;> first | (rw [wrapK (by omega)]; done) | (simp; done) | omega) | fail))⟩) ⟨k + 1, by omega, rfl⟩ (by simp only [slotN, ruW, ASt.get, aget, ASt.put, ↓reduceIte, reduceCtorEq, Nat.reduceLT, Nat.reduceEqDiff, Nat.reduceAdd, Nat.reduceLeDiff, eq_self, implies_true]; omega)
        | trace_state
    · obtain rfl : k = m.miles.length := by omega
      rw [List.take_length]
      (repeat' (first | simp (maxSteps := 5000000) (implicitDefEqProofs := false) only [ruA, ruB, aEv, aTake, aLoad, aField, aIndex, aLen, aBin, bin2, aUn, un1, aExtract, aConv, ASt.get, aget, ASt.put, aStore, aBox, aAppend, aBuildSlice, aMake, aBuild, aFill, oneParts, allC, aBinS, yv, aCells, oneC, oneCL, treeC, treeL, aLit, aDst, aSrc, appTab, Value.cells, Value.oneCell', envOf, aResL, aOne, ↓reduceIte, reduceCtorEq, forall_const, Nat.reduceLT, Nat.reduceEqDiff, Nat.reduceAdd, Nat.reduceMul, Nat.reduceSub, Nat.reduceLeDiff, Nat.reduceBEq, eq_self, implies_true, ne_eq, dref, dref1, dref2, aExecS, aStoreB, aTakes, aTakeE, aElder, aFrom, aFresh, isLoad, aBuildSlice1, frzs, frz1, ownIds, AV.frz, AV.frzL, frzEnv, AV.shift, AV.shiftL, aFieldV, aSliceW, aSliceO, aSlice, aSliceR, aSliceS, aBd, aMax, frzAVs, frzAV, frzTab, AObj.frz, aMM, aNilS, aMay, tyR_23, tyF_47_6, tyA_42, tyS_42, tyE_42, tyK_42, tyK_3, tyF_78_2, tyA_22, tyS_22, tyF_47_7, tyA_43, tyS_43, tyE_43, tyK_43, tyF_80_3, hlt3] | (with_reducible refine aIf_split (fun _ => ?_) (fun _ => ?_)) | (with_reducible refine aSel_split (fun _ => ?_) (fun _ => ?_)) | (with_reducible refine aGd_split (fun _ => ?_) (fun _ => ?_))))
      refine callZ [1] (R := own 2 1 ((sortR (O ++ m.miles.flatMap g2)).map fun n => [eI n])) ?_ ?_ ?_
      · simp (maxSteps := 5000000) (implicitDefEqProofs := false) only [ruA, ruB, aEv, aTake, aLoad, aField, aIndex, aLen, aBin, bin2, aUn, un1, aExtract, aConv, ASt.get, aget, ASt.put, aStore, aBox, aAppend, aBuildSlice, aMake, aBuild, aFill, oneParts, allC, aBinS, yv, aCells, oneC, oneCL, treeC, treeL, aLit, aDst, aSrc, appTab, Value.cells, Value.oneCell', envOf, aResL, aOne, ↓reduceIte, reduceCtorEq, forall_const, Nat.reduceLT, Nat.reduceEqDiff, Nat.reduceAdd, Nat.reduceMul, Nat.reduceSub, Nat.reduceLeDiff, Nat.reduceBEq, eq_self, implies_true, ne_eq, dref, dref1, dref2, aExecS, aStoreB, aTakes, aTakeE, aElder, aFrom, aFresh, isLoad, aBuildSlice1, frzs, frz1, ownIds, AV.frz, AV.frzL, frzEnv, AV.shift, AV.shiftL, aFieldV, aSliceW, aSliceO, aSlice, aSliceR, aSliceS, aBd, aMax, frzAVs, frzAV, frzTab, AObj.frz, aMM, aNilS, aMay, tyR_23, tyF_47_6, tyA_42, tyS_42, tyE_42, tyK_42, tyK_3, tyF_78_2, tyA_22, tyS_22, tyF_47_7, tyA_43, tyS_43, tyE_43, tyK_43, tyF_80_3]
        exact hS
      · simp (maxSteps := 5000000) (implicitDefEqProofs := false) only [ruA, ruB, aEv, aTake, aLoad, aField, aIndex, aLen, aBin, bin2, aUn, un1, aExtract, aConv, ASt.get, aget, ASt.put, aStore, aBox, aAppend, aBuildSlice, aMake, aBuild, aFill, oneParts, allC, aBinS, yv, aCells, oneC, oneCL, treeC, treeL, aLit, aDst, aSrc, appTab, Value.cells, Value.oneCell', envOf, aResL, aOne, ↓reduceIte, reduceCtorEq, forall_const, Nat.reduceLT, Nat.reduceEqDiff, Nat.reduceAdd, Nat.reduceMul, Nat.reduceSub, Nat.reduceLeDiff, Nat.reduceBEq, eq_self, implies_true, ne_eq, dref, dref1, dref2, aExecS, aStoreB, aTakes, aTakeE, aElder, aFrom, aFresh, isLoad, aBuildSlice1, frzs, frz1, ownIds, AV.frz, AV.frzL, frzEnv, AV.shift, AV.shiftL, aFieldV, aSliceW, aSliceO, aSlice, aSliceR, aSliceS, aBd, aMax, frzAVs, frzAV, frzTab, AObj.frz, aMM, aNilS, aMay, tyR_23, tyF_47_6, tyA_42, tyS_42, tyE_42, tyK_42, tyK_3, tyF_78_2, tyA_22, tyS_22, tyF_47_7, tyA_43, tyS_43, tyE_43, tyK_43, tyF_80_3]
        left
        simp [roL, roA, treeL, treeC]
      · (repeat' (first | simp (maxSteps := 5000000) (implicitDefEqProofs := false) only [ruA, ruB, aEv, aTake, aLoad, aField, aIndex, aLen, aBin, bin2, aUn, un1, aExtract, aConv, ASt.get, aget, ASt.put, aStore, aBox, aAppend, aBuildSlice, aMake, aBuild, aFill, oneParts, allC, aBinS, yv, aCells, oneC, oneCL, treeC, treeL, aLit, aDst, aSrc, appTab, Value.cells, Value.oneCell', envOf, aResL, aOne, ↓reduceIte, reduceCtorEq, forall_const, Nat.reduceLT, Nat.reduceEqDiff, Nat.reduceAdd, Nat.reduceMul, Nat.reduceSub, Nat.reduceLeDiff, Nat.reduceBEq, eq_self, implies_true, ne_eq, dref, dref1, dref2, aExecS, aStoreB, aTakes, aTakeE, aElder, aFrom, aFresh, isLoad, aBuildSlice1, frzs, frz1, ownIds, AV.frz, AV.frzL, frzEnv, AV.shift, AV.shiftL, aFieldV, aSliceW, aSliceO, aSlice, aSliceR, aSliceS, aBd, aMax, frzAVs, frzAV, frzTab, AObj.frz, aMM, aNilS, aMay, tyR_23, tyF_47_6, tyA_42, tyS_42, tyE_42, tyK_42, tyK_3, tyF_78_2, tyA_22, tyS_22, tyF_47_7, tyA_43, tyS_43, tyE_43, tyK_43, tyF_80_3] | (with_reducible refine aIf_split (fun _ => ?_) (fun _ => ?_)) | (with_reducible refine aSel_split (fun _ => ?_) (fun _ => ?_)) | (with_reducible refine aGd_split (fun _ => ?_) (fun _ => ?_)) | (with_reducible refine aDraw_quiet (by kernel_rfl) ?_)))
        all_goals exact aGives_own (by simp [own, ATab.get_cons, ATab.shift, AObj.shift, AV.shift])
theorem conds_ok64 (m : Mod) (h : condOk m) (p : List Inst) (hp : ∀ x ∈ p, x.ok) : ∀ n ∈ constsM m p, ok64 n := fun n hn => by
  have h1 := ((sortR_up _).2 n).1 hn
  have key : ∀ l : List Inst, (∀ x ∈ l, x.ok) → ∀ n ∈ condN l, ok64 n := fun l hl n hn => numsOf_ok l hl n (((sortR_up _).2 n).1 hn)
  rcases List.mem_append.1 h1 with h1 | h1
  · rcases List.mem_append.1 h1 with h1 | h1
    · exact key p hp n h1
    · obtain ⟨g, hg, h2⟩ := List.mem_flatMap.1 h1
      exact key _ (h.1 g hg) n h2
  · obtain ⟨g, hg, h2⟩ := List.mem_flatMap.1 h1
    exact key _ (h.2 g hg) n h2
theorem nums_one (c : List Int) (x : Inst) : Nums [x] (c ++ sortR (numsOf [x])) := fun y hy hc => by
  have := numsOf_nums [x] y hy hc
  exact ⟨fun h => List.mem_append_right _ (this.1 h), fun h => List.mem_append_right _ (this.2 h)⟩
set_option maxRecDepth 100000 in
set_option maxHeartbeats 8000000 in
theorem atomsTrue_A (m : Mod) (s : St) (x : Inst) (hle : m.events.length ≤ 9223372036854775807) (hcond : condOk m) (hx : x.ok) (hv : ∀ n ∈ s.vals, ok64 n) : ADet Try.prog 4 [.agg (eMod m), .agg (eSt s), .agg (eInst x)] (val (.bool true)) := by
  refine adet_of_code mixedT Try.func4 rfl (by decide) Try.ntmps4 Try.results4 rfl (val_ok _) ?_
  (repeat' (first | simp (maxSteps := 5000000) (implicitDefEqProofs := false) only [ruA, ruB, aEv, aTake, aLoad, aField, aIndex, aLen, aBin, bin2, aUn, un1, aExtract, aConv, ASt.get, aget, ASt.put, aStore, aBox, aAppend, aBuildSlice, aMake, aBuild, aFill, oneParts, allC, aBinS, yv, aCells, oneC, oneCL, treeC, treeL, aLit, aDst, aSrc, appTab, Value.cells, Value.oneCell', envOf, aResL, aOne, ↓reduceIte, reduceCtorEq, forall_const, Nat.reduceLT, Nat.reduceEqDiff, Nat.reduceAdd, Nat.reduceMul, Nat.reduceSub, Nat.reduceLeDiff, Nat.reduceBEq, eq_self, implies_true, ne_eq, dref, dref1, dref2, aExecS, aStoreB, aTakes, aTakeE, aElder, aFrom, aFresh, isLoad, aBuildSlice1, frzs, frz1, ownIds, AV.frz, AV.frzL, frzEnv, AV.shift, AV.shiftL, aFieldV, aSliceW, aSliceO, aSlice, aSliceR, aSliceS, aBd, aMax, frzAVs, frzAV, frzTab, AObj.frz, aMM, aNilS, aMay, tyA_47, tyS_47, tyA_26, tyS_26, tyF_26_0, tyA_23, tyS_23, tyE_23, tyK_23, tyK_3, tyA_51, tyS_51, tyR_22, tyR_23, tyK_4] | (with_reducible refine aIf_split (fun _ => ?_) (fun _ => ?_)) | (with_reducible refine aSel_split (fun _ => ?_) (fun _ => ?_)) | (with_reducible refine aGd_split (fun _ => ?_) (fun _ => ?_))))
  refine callPB (wild_A m hle) fun b hb => ?_
  cases b with
  | true =>
    (repeat' (first | simp (maxSteps := 5000000) (implicitDefEqProofs := false) only [ruA, ruB, aEv, aTake, aLoad, aField, aIndex, aLen, aBin, bin2, aUn, un1, aExtract, aConv, ASt.get, aget, ASt.put, aStore, aBox, aAppend, aBuildSlice, aMake, aBuild, aFill, oneParts, allC, aBinS, yv, aCells, oneC, oneCL, treeC, treeL, aLit, aDst, aSrc, appTab, Value.cells, Value.oneCell', envOf, aResL, aOne, ↓reduceIte, reduceCtorEq, forall_const, Nat.reduceLT, Nat.reduceEqDiff, Nat.reduceAdd, Nat.reduceMul, Nat.reduceSub, Nat.reduceLeDiff, Nat.reduceBEq, eq_self, implies_true, ne_eq, dref, dref1, dref2, aExecS, aStoreB, aTakes, aTakeE, aElder, aFrom, aFresh, isLoad, aBuildSlice1, frzs, frz1, ownIds, AV.frz, AV.frzL, frzEnv, AV.shift, AV.shiftL, aFieldV, aSliceW, aSliceO, aSlice, aSliceR, aSliceS, aBd, aMax, frzAVs, frzAV, frzTab, AObj.frz, aMM, aNilS, aMay, tyA_47, tyS_47, tyA_26, tyS_26, tyF_26_0, tyA_23, tyS_23, tyE_23, tyK_23, tyK_3, tyA_51, tyS_51, tyR_22, tyR_23, tyK_4] | (with_reducible refine aIf_split (fun _ => ?_) (fun _ => ?_)) | (with_reducible refine aSel_split (fun _ => ?_) (fun _ => ?_)) | (with_reducible refine aGd_split (fun _ => ?_) (fun _ => ?_)) | (with_reducible refine aDraw_quiet (by kernel_rfl) ?_) | ((with_reducible apply callV (g := 12)); exact (awake33_A)) | ((with_reducible apply callD (g := 12)); exact (awake33_A))))
  | false =>
    obtain ⟨hf, hev⟩ := hb rfl
    (repeat' (first | simp (maxSteps := 5000000) (implicitDefEqProofs := false) only [ruA, ruB, aEv, aTake, aLoad, aField, aIndex, aLen, aBin, bin2, aUn, un1, aExtract, aConv, ASt.get, aget, ASt.put, aStore, aBox, aAppend, aBuildSlice, aMake, aBuild, aFill, oneParts, allC, aBinS, yv, aCells, oneC, oneCL, treeC, treeL, aLit, aDst, aSrc, appTab, Value.cells, Value.oneCell', envOf, aResL, aOne, ↓reduceIte, reduceCtorEq, forall_const, Nat.reduceLT, Nat.reduceEqDiff, Nat.reduceAdd, Nat.reduceMul, Nat.reduceSub, Nat.reduceLeDiff, Nat.reduceBEq, eq_self, implies_true, ne_eq, dref, dref1, dref2, aExecS, aStoreB, aTakes, aTakeE, aElder, aFrom, aFresh, isLoad, aBuildSlice1, frzs, frz1, ownIds, AV.frz, AV.frzL, frzEnv, AV.shift, AV.shiftL, aFieldV, aSliceW, aSliceO, aSlice, aSliceR, aSliceS, aBd, aMax, frzAVs, frzAV, frzTab, AObj.frz, aMM, aNilS, aMay, tyA_47, tyS_47, tyA_26, tyS_26, tyF_26_0, tyA_23, tyS_23, tyE_23, tyK_23, tyK_3, tyA_51, tyS_51, tyR_22, tyR_23, tyK_4] | (with_reducible refine aIf_split (fun _ => ?_) (fun _ => ?_)) | (with_reducible refine aSel_split (fun _ => ?_) (fun _ => ?_)) | (with_reducible refine aGd_split (fun _ => ?_) (fun _ => ?_))))
    refine callPB (great15_A s) fun b2 hb2 => ?_
    cases b2 with
    | true =>
      (repeat' (first | simp (maxSteps := 5000000) (implicitDefEqProofs := false) only [ruA, ruB, aEv, aTake, aLoad, aField, aIndex, aLen, aBin, bin2, aUn, un1, aExtract, aConv, ASt.get, aget, ASt.put, aStore, aBox, aAppend, aBuildSlice, aMake, aBuild, aFill, oneParts, allC, aBinS, yv, aCells, oneC, oneCL, treeC, treeL, aLit, aDst, aSrc, appTab, Value.cells, Value.oneCell', envOf, aResL, aOne, ↓reduceIte, reduceCtorEq, forall_const, Nat.reduceLT, Nat.reduceEqDiff, Nat.reduceAdd, Nat.reduceMul, Nat.reduceSub, Nat.reduceLeDiff, Nat.reduceBEq, eq_self, implies_true, ne_eq, dref, dref1, dref2, aExecS, aStoreB, aTakes, aTakeE, aElder, aFrom, aFresh, isLoad, aBuildSlice1, frzs, frz1, ownIds, AV.frz, AV.frzL, frzEnv, AV.shift, AV.shiftL, aFieldV, aSliceW, aSliceO, aSlice, aSliceR, aSliceS, aBd, aMax, frzAVs, frzAV, frzTab, AObj.frz, aMM, aNilS, aMay, tyA_47, tyS_47, tyA_26, tyS_26, tyF_26_0, tyA_23, tyS_23, tyE_23, tyK_23, tyK_3, tyA_51, tyS_51, tyR_22, tyR_23, tyK_4] | (with_reducible refine aIf_split (fun _ => ?_) (fun _ => ?_)) | (with_reducible refine aSel_split (fun _ => ?_) (fun _ => ?_)) | (with_reducible refine aGd_split (fun _ => ?_) (fun _ => ?_)) | (with_reducible refine aDraw_quiet (by kernel_rfl) ?_) | ((with_reducible apply callV (g := 12)); exact (awake33_A)) | ((with_reducible apply callD (g := 12)); exact (awake33_A))))
    | false =>
      obtain ⟨hgl, hml, hsl, hel, hal, hul, hrl, hsol, hol, hil⟩ := id hf.sizes
      obtain ⟨hs1, hs2, hs3⟩ := hb2 rfl
      by_cases h20 : s.vals.length ≤ 20
      · have d1 : decide (20 < (s.vals.length : Int)) = false := by simp only [decide_eq_false_iff_not]; omega
        have d2 : decide (20 < s.vals.length) = false := by simp only [decide_eq_false_iff_not]; omega
        have hC := consts_O m [] (by simp) (by omega) (by omega) (fun g h => hf.guards g h) (fun g h => hf.miles g h)
        have hC2 := hC.fits (args := [.agg (eMod m), .c (.slice none 0 0)]) ⟨.one (.refl _), .one (.nil 7), trivial⟩
        have hN := numbers11_O [x] (by simp)
        have hNl := numsOf_len [x]
        have hSl := sortR_len (numsOf [x])
        have hok := conds_ok64 m hcond [] (by simp)
        have hok2 : ∀ n ∈ sortR (numsOf [x]), ok64 n := fun n hn => numsOf_ok [x] (by simpa using hx) n (((sortR_up _).2 n).1 hn)
        have hcl : (constsM m []).length ≤ 100000 := by
          have h1 := sortR_len ((condN [] ++ m.guards.flatMap fun g => condN g.cond) ++ m.miles.flatMap fun g => condN g.cond)
          have h2 := flatN_len (fun g : Gd => condN g.cond) m.guards fun g h => condN_len _ (by have := hf.guards g h; omega)
          have h3 := flatN_len (fun g : Ml => condN g.cond) m.miles fun g h => condN_len _ (by have := hf.miles g h; omega)
          have h4 := condN_len [] (by simp)
          rw [List.length_append, List.length_append] at h1
          unfold constsM
          omega
        have hnm := nums_one (constsM m []) x
        obtain ⟨C, hCe⟩ : ∃ C, constsM m [] = C := ⟨_, rfl⟩
        obtain ⟨N, hNe⟩ : ∃ N, sortR (numsOf [x]) = N := ⟨_, rfl⟩
        rw [hCe] at hC2 hok hcl hnm
        rw [hNe] at hN hSl hok2 hnm
        have hNl2 : N.length ≤ 2 := by simp at hNl; omega
        (repeat' (first | simp (maxSteps := 5000000) (implicitDefEqProofs := false) only [ruA, ruB, aEv, aTake, aLoad, aField, aIndex, aLen, aBin, bin2, aUn, un1, aExtract, aConv, ASt.get, aget, ASt.put, aStore, aBox, aAppend, aBuildSlice, aMake, aBuild, aFill, oneParts, allC, aBinS, yv, aCells, oneC, oneCL, treeC, treeL, aLit, aDst, aSrc, appTab, Value.cells, Value.oneCell', envOf, aResL, aOne, ↓reduceIte, reduceCtorEq, forall_const, Nat.reduceLT, Nat.reduceEqDiff, Nat.reduceAdd, Nat.reduceMul, Nat.reduceSub, Nat.reduceLeDiff, Nat.reduceBEq, eq_self, implies_true, ne_eq, dref, dref1, dref2, aExecS, aStoreB, aTakes, aTakeE, aElder, aFrom, aFresh, isLoad, aBuildSlice1, frzs, frz1, ownIds, AV.frz, AV.frzL, frzEnv, AV.shift, AV.shiftL, aFieldV, aSliceW, aSliceO, aSlice, aSliceR, aSliceS, aBd, aMax, frzAVs, frzAV, frzTab, AObj.frz, aMM, aNilS, aMay, tyA_47, tyS_47, tyA_26, tyS_26, tyF_26_0, tyA_23, tyS_23, tyE_23, tyK_23, tyK_3, tyA_51, tyS_51, tyR_22, tyR_23, tyK_4, d1, d2] | (with_reducible refine aIf_split (fun _ => ?_) (fun _ => ?_)) | (with_reducible refine aSel_split (fun _ => ?_) (fun _ => ?_)) | (with_reducible refine aGd_split (fun _ => ?_) (fun _ => ?_))))
        refine aDraw_join (fun st' => st' = ⟨47, [(3, .op 0 0 0), (4, .op 1 0 0), (5, .op 2 0 0), (7, sI (C ++ N))], [(0, some (.box 47 (eMod m))), (1, some (.box 26 (eSt s))), (2, some (.box 51 (eInst x)))], 3⟩) [] [0, 2] (.two 1 (.exec 3 (.exec 4 (.exec 5 (.exec 6 .done)))) 3 (.exec 1 (.exec 4 (.exec 5 (.exec 6 .done))))) (by kernel_rfl) (by simp [ATab.get_cons]) ?_ ?_
        · have hfr : frz1 ⟨47, [(3, .op 0 0 0), (4, .op 1 0 0), (5, .op 2 0 0), (7, .osl 3)], [(0, some (.box 47 (eMod m))), (1, some (.box 26 (eSt s))), (2, some (.box 51 (eInst x))), (3, some (.row 2 1 ((C ++ N).map fun n => [eI n])))], 4⟩ 3 = ⟨47, [(3, .op 0 0 0), (4, .op 1 0 0), (5, .op 2 0 0), (7, sI (C ++ N))], [(3, none), (0, some (.box 47 (eMod m))), (1, some (.box 26 (eSt s))), (2, some (.box 51 (eInst x))), (3, some (.row 2 1 ((C ++ N).map fun n => [eI n])))], 4⟩ := by
            simp [frz1, frzEnv, frzTab, ATab.get_cons, AObj.frz, AV.frz, AV.frzL]
          have hw2 : Weak ⟨47, [(3, .op 0 0 0), (4, .op 1 0 0), (5, .op 2 0 0), (7, sI (C ++ N))], [(3, none), (0, some (.box 47 (eMod m))), (1, some (.box 26 (eSt s))), (2, some (.box 51 (eInst x))), (3, some (.row 2 1 ((C ++ N).map fun n => [eI n])))], 4⟩ ⟨47, [(3, .op 0 0 0), (4, .op 1 0 0), (5, .op 2 0 0), (7, sI (C ++ N))], [(0, some (.box 47 (eMod m))), (1, some (.box 26 (eSt s))), (2, some (.box 51 (eInst x)))], 3⟩ := (weak_cut1 (by (first | ((simp only [envIn, tabIn, envLt, tabLt, AObj.lt, AV.lt, AV.ltL, ruW, ASt.get, aget, ASt.put, ↓reduceIte, reduceCtorEq, Nat.reduceLT, Nat.reduceEqDiff, Nat.reduceAdd, Nat.reduceLeDiff, eq_self, implies_true]) <;> (repeat' apply And.intro) <;> first | (rw [wrapK (by omega)]; done) | (simp; done) | omega) | fail)))
          (repeat' (first | simp (maxSteps := 5000000) (implicitDefEqProofs := false) only [ruA, ruB, aEv, aTake, aLoad, aField, aIndex, aLen, aBin, bin2, aUn, un1, aExtract, aConv, ASt.get, aget, ASt.put, aStore, aBox, aAppend, aBuildSlice, aMake, aBuild, aFill, oneParts, allC, aBinS, yv, aCells, oneC, oneCL, treeC, treeL, aLit, aDst, aSrc, appTab, Value.cells, Value.oneCell', envOf, aResL, aOne, ↓reduceIte, reduceCtorEq, forall_const, Nat.reduceLT, Nat.reduceEqDiff, Nat.reduceAdd, Nat.reduceMul, Nat.reduceSub, Nat.reduceLeDiff, Nat.reduceBEq, eq_self, implies_true, ne_eq, dref, dref1, dref2, aExecS, aStoreB, aTakes, aTakeE, aElder, aFrom, aFresh, isLoad, aBuildSlice1, frzs, frz1, ownIds, AV.frz, AV.frzL, frzEnv, AV.shift, AV.shiftL, aFieldV, aSliceW, aSliceO, aSlice, aSliceR, aSliceS, aBd, aMax, frzAVs, frzAV, frzTab, AObj.frz, aMM, aNilS, aMay, tyA_47, tyS_47, tyA_26, tyS_26, tyF_26_0, tyA_23, tyS_23, tyE_23, tyK_23, tyK_3, tyA_51, tyS_51, tyR_22, tyR_23, tyK_4, List.map_append] | (with_reducible refine aIf_split (fun _ => ?_) (fun _ => ?_)) | (with_reducible refine aSel_split (fun _ => ?_) (fun _ => ?_)) | (with_reducible refine aGd_split (fun _ => ?_) (fun _ => ?_)) | (with_reducible refine aDraw_quiet (by kernel_rfl) ?_) | ((with_reducible apply callO); exact (hC2); exact (.inr ints_plain)) | ((with_reducible apply callO); exact (hN); exact (.inr ints_plain)) | (with_reducible apply And.intro)))
          all_goals first
            | rfl
            | omega
            | (simp; omega)
            | exact aTo_mk ((((weak_ren1 [0, 1, 2, 5] ⟨(by decide), (by (first | ((simp only [envInR, tabInR, envLt, tabLt, AObj.lt, AV.lt, AV.ltL, AV.ren, AV.renL, AObj.ren, List.getD_cons_zero, List.getD_cons_succ, List.length_cons, List.length_nil, ruW, ASt.get, aget, ASt.put, ↓reduceIte, reduceCtorEq, Nat.reduceLT, Nat.reduceEqDiff, Nat.reduceAdd, Nat.reduceLeDiff, eq_self, implies_true, List.map_append]) <;> (repeat' apply And.intro) <;> first | (rw [wrapK (by omega)]; done) | (simp; done) | omega) | fail))⟩) : Weak _ ⟨47, [(3, .op 0 0 0), (4, .op 1 0 0), (5, .op 2 0 0), (7, .osl 3)], [(0, some (.box 47 (eMod m))), (1, some (.box 26 (eSt s))), (2, some (.box 51 (eInst x))), (3, some (.row 2 1 ((C ++ N).map fun n => [eI n])))], 4⟩).trans (weak_to 3 hfr)).trans hw2) rfl
            | exact aTo_mk ((((weak_ren1 [0, 1, 2, 6] ⟨(by decide), (by (first | ((simp only [envInR, tabInR, envLt, tabLt, AObj.lt, AV.lt, AV.ltL, AV.ren, AV.renL, AObj.ren, List.getD_cons_zero, List.getD_cons_succ, List.length_cons, List.length_nil, ruW, ASt.get, aget, ASt.put, ↓reduceIte, reduceCtorEq, Nat.reduceLT, Nat.reduceEqDiff, Nat.reduceAdd, Nat.reduceLeDiff, eq_self, implies_true, List.map_append]) <;> (repeat' apply And.intro) <;> first | (rw [wrapK (by omega)]; done) | (simp; done) | omega) | fail))⟩) : Weak _ ⟨47, [(3, .op 0 0 0), (4, .op 1 0 0), (5, .op 2 0 0), (7, .osl 3)], [(0, some (.box 47 (eMod m))), (1, some (.box 26 (eSt s))), (2, some (.box 51 (eInst x))), (3, some (.row 2 1 ((C ++ N).map fun n => [eI n])))], 4⟩).trans (weak_to 3 hfr)).trans hw2) rfl
            | trace_state
        · rintro _ rfl
          have hcn : (C ++ N).length = C.length + N.length := List.length_append
          have hokc : ∀ n ∈ C ++ N, ok64 n := fun n hn => (List.mem_append.1 hn).elim (hok n) (hok2 n)
          have eqn := atM_true m (C ++ N) s x (nodeM m (C ++ N) s) rfl rfl (by omega) hnm
          obtain ⟨c, hc⟩ : ∃ c, C ++ N = c := ⟨_, rfl⟩
          rw [hc] at hcn hokc eqn ⊢
          by_cases hc20 : c.length ≤ 20
          · have d3 : decide (20 < (c.length : Int)) = false := by simp only [decide_eq_false_iff_not]; omega
            have d4 : decide (20 < c.length) = false := by simp only [decide_eq_false_iff_not]; omega
            have hO := on_A m s x (by omega) (by omega) (by omega) (by omega) hx hv
            have hN := nodeOf_A m c s (by omega) hev (by omega) (by omega) hv hokc (by omega) (by omega)
            have hzl : (nodeM m c s).z.cls.length ≤ 1000000 := by
              have := sortR_len (s.vals ++ c)
              simp at this
              simp [nodeM, zoneM, clsL, numsL]
              omega
            have hA := at_A33 m c (nodeM m c s) x (by omega) (by omega) (by omega) (by omega) hx hzl (by omega) (by simp [nodeM]; omega) (by simp [nodeM]; omega)
            rw [eqn] at hA
            obtain ⟨nd, hnd⟩ : ∃ nd, nodeM m c s = nd := ⟨_, rfl⟩
            rw [hnd] at hN hA
            have hz : (onM m s x == onM m s x) = true := by simp
            (repeat' (first | simp (maxSteps := 5000000) (implicitDefEqProofs := false) only [ruA, ruB, aEv, aTake, aLoad, aField, aIndex, aLen, aBin, bin2, aUn, un1, aExtract, aConv, ASt.get, aget, ASt.put, aStore, aBox, aAppend, aBuildSlice, aMake, aBuild, aFill, oneParts, allC, aBinS, yv, aCells, oneC, oneCL, treeC, treeL, aLit, aDst, aSrc, appTab, Value.cells, Value.oneCell', envOf, aResL, aOne, ↓reduceIte, reduceCtorEq, forall_const, Nat.reduceLT, Nat.reduceEqDiff, Nat.reduceAdd, Nat.reduceMul, Nat.reduceSub, Nat.reduceLeDiff, Nat.reduceBEq, eq_self, implies_true, ne_eq, dref, dref1, dref2, aExecS, aStoreB, aTakes, aTakeE, aElder, aFrom, aFresh, isLoad, aBuildSlice1, frzs, frz1, ownIds, AV.frz, AV.frzL, frzEnv, AV.shift, AV.shiftL, aFieldV, aSliceW, aSliceO, aSlice, aSliceR, aSliceS, aBd, aMax, frzAVs, frzAV, frzTab, AObj.frz, aMM, aNilS, aMay, tyA_47, tyS_47, tyA_26, tyS_26, tyF_26_0, tyA_23, tyS_23, tyE_23, tyK_23, tyK_3, tyA_51, tyS_51, tyR_22, tyR_23, tyK_4, d3, d4] | (with_reducible refine aIf_split (fun _ => ?_) (fun _ => ?_)) | (with_reducible refine aSel_split (fun _ => ?_) (fun _ => ?_)) | (with_reducible refine aGd_split (fun _ => ?_) (fun _ => ?_))))
            refine aDraw_held [] [0, 1, 2, 4, 5, 6, 7, 8, 10] (.exec 3 (.exec 9 (.exec 11 (.take 12 (.take 13 (.exec 14 (.take 15 (.exec 16 .done)))))))) (by kernel_rfl) (by simp [ATab.get_cons]) ?_
            (repeat' (first | simp (maxSteps := 5000000) (implicitDefEqProofs := false) only [ruA, ruB, aEv, aTake, aLoad, aField, aIndex, aLen, aBin, bin2, aUn, un1, aExtract, aConv, ASt.get, aget, ASt.put, aStore, aBox, aAppend, aBuildSlice, aMake, aBuild, aFill, oneParts, allC, aBinS, yv, aCells, oneC, oneCL, treeC, treeL, aLit, aDst, aSrc, appTab, Value.cells, Value.oneCell', envOf, aResL, aOne, ↓reduceIte, reduceCtorEq, forall_const, Nat.reduceLT, Nat.reduceEqDiff, Nat.reduceAdd, Nat.reduceMul, Nat.reduceSub, Nat.reduceLeDiff, Nat.reduceBEq, eq_self, implies_true, ne_eq, dref, dref1, dref2, aExecS, aStoreB, aTakes, aTakeE, aElder, aFrom, aFresh, isLoad, aBuildSlice1, frzs, frz1, ownIds, AV.frz, AV.frzL, frzEnv, AV.shift, AV.shiftL, aFieldV, aSliceW, aSliceO, aSlice, aSliceR, aSliceS, aBd, aMax, frzAVs, frzAV, frzTab, AObj.frz, aMM, aNilS, aMay, tyA_47, tyS_47, tyA_26, tyS_26, tyF_26_0, tyA_23, tyS_23, tyE_23, tyK_23, tyK_3, tyA_51, tyS_51, tyR_22, tyR_23, tyK_4, hz] | (with_reducible refine aIf_split (fun _ => ?_) (fun _ => ?_)) | (with_reducible refine aSel_split (fun _ => ?_) (fun _ => ?_)) | (with_reducible refine aGd_split (fun _ => ?_) (fun _ => ?_)) | (with_reducible refine aDraw_quiet (by kernel_rfl) ?_) | ((with_reducible apply callV); exact (hO)) | ((with_reducible apply callD); exact (hO)) | ((with_reducible apply callT); exact (hN); exact (.inl (by simp [roL, roA, treeL, treeC]))) | ((with_reducible apply callV); exact (hA)) | ((with_reducible apply callD); exact (hA)) | ((with_reducible apply callV (g := 12)); exact (awake33_A)) | ((with_reducible apply callD (g := 12)); exact (awake33_A)) | (with_reducible apply And.intro)))
            all_goals trace_state
          · have d3 : decide (20 < (c.length : Int)) = true := by simp only [decide_eq_true_eq]; omega
            have d4 : decide (20 < c.length) = true := by simp only [decide_eq_true_eq]; omega
            (repeat' (first | simp (maxSteps := 5000000) (implicitDefEqProofs := false) only [ruA, ruB, aEv, aTake, aLoad, aField, aIndex, aLen, aBin, bin2, aUn, un1, aExtract, aConv, ASt.get, aget, ASt.put, aStore, aBox, aAppend, aBuildSlice, aMake, aBuild, aFill, oneParts, allC, aBinS, yv, aCells, oneC, oneCL, treeC, treeL, aLit, aDst, aSrc, appTab, Value.cells, Value.oneCell', envOf, aResL, aOne, ↓reduceIte, reduceCtorEq, forall_const, Nat.reduceLT, Nat.reduceEqDiff, Nat.reduceAdd, Nat.reduceMul, Nat.reduceSub, Nat.reduceLeDiff, Nat.reduceBEq, eq_self, implies_true, ne_eq, dref, dref1, dref2, aExecS, aStoreB, aTakes, aTakeE, aElder, aFrom, aFresh, isLoad, aBuildSlice1, frzs, frz1, ownIds, AV.frz, AV.frzL, frzEnv, AV.shift, AV.shiftL, aFieldV, aSliceW, aSliceO, aSlice, aSliceR, aSliceS, aBd, aMax, frzAVs, frzAV, frzTab, AObj.frz, aMM, aNilS, aMay, tyA_47, tyS_47, tyA_26, tyS_26, tyF_26_0, tyA_23, tyS_23, tyE_23, tyK_23, tyK_3, tyA_51, tyS_51, tyR_22, tyR_23, tyK_4, d3, d4] | (with_reducible refine aIf_split (fun _ => ?_) (fun _ => ?_)) | (with_reducible refine aSel_split (fun _ => ?_) (fun _ => ?_)) | (with_reducible refine aGd_split (fun _ => ?_) (fun _ => ?_)) | (with_reducible refine aDraw_quiet (by kernel_rfl) ?_) | ((with_reducible apply callV (g := 12)); exact (awake33_A)) | ((with_reducible apply callD (g := 12)); exact (awake33_A))))
      · have d1 : decide (20 < (s.vals.length : Int)) = true := by simp only [decide_eq_true_eq]; omega
        have d2 : decide (20 < s.vals.length) = true := by simp only [decide_eq_true_eq]; omega
        (repeat' (first | simp (maxSteps := 5000000) (implicitDefEqProofs := false) only [ruA, ruB, aEv, aTake, aLoad, aField, aIndex, aLen, aBin, bin2, aUn, un1, aExtract, aConv, ASt.get, aget, ASt.put, aStore, aBox, aAppend, aBuildSlice, aMake, aBuild, aFill, oneParts, allC, aBinS, yv, aCells, oneC, oneCL, treeC, treeL, aLit, aDst, aSrc, appTab, Value.cells, Value.oneCell', envOf, aResL, aOne, ↓reduceIte, reduceCtorEq, forall_const, Nat.reduceLT, Nat.reduceEqDiff, Nat.reduceAdd, Nat.reduceMul, Nat.reduceSub, Nat.reduceLeDiff, Nat.reduceBEq, eq_self, implies_true, ne_eq, dref, dref1, dref2, aExecS, aStoreB, aTakes, aTakeE, aElder, aFrom, aFresh, isLoad, aBuildSlice1, frzs, frz1, ownIds, AV.frz, AV.frzL, frzEnv, AV.shift, AV.shiftL, aFieldV, aSliceW, aSliceO, aSlice, aSliceR, aSliceS, aBd, aMax, frzAVs, frzAV, frzTab, AObj.frz, aMM, aNilS, aMay, tyA_47, tyS_47, tyA_26, tyS_26, tyF_26_0, tyA_23, tyS_23, tyE_23, tyK_23, tyK_3, tyA_51, tyS_51, tyR_22, tyR_23, tyK_4, d1, d2] | (with_reducible refine aIf_split (fun _ => ?_) (fun _ => ?_)) | (with_reducible refine aSel_split (fun _ => ?_) (fun _ => ?_)) | (with_reducible refine aGd_split (fun _ => ?_) (fun _ => ?_)) | (with_reducible refine aDraw_quiet (by kernel_rfl) ?_) | ((with_reducible apply callV (g := 12)); exact (awake33_A)) | ((with_reducible apply callD (g := 12)); exact (awake33_A))))
end
section
open Go.RowKit

theorem opensInt : Opens Try.prog 3 (intR .i64) := opens_int Try.underlying3
theorem opensI64 : Opens Try.prog 2 (intR .i64) := opens_int Try.underlying2
def valR : Rep (Int × Int × Unit) := pairR (intR .i64) (pairR (intR .i64) nilR)
theorem opensVal : Opens Try.prog 49 valR :=
  opens_struct Try.underlying49 (by kernel_rfl) (opensF_cons (by kernel_rfl) (by kernel_rfl) opensInt (opensF_cons (by kernel_rfl) (by kernel_rfl) opensI64 (opensF_nil _ _)))
def instP : Rep (Int × (Int × Int × Unit) × (Int × Int × Unit) × Int × Int × Unit) := pairR (intR .i64) (pairR valR (pairR valR (pairR (intR .i64) (pairR (intR .i64) nilR))))
theorem opensInstP : Opens Try.prog 51 instP :=
  opens_struct Try.underlying51 (by kernel_rfl) (opensF_cons (by kernel_rfl) (by kernel_rfl) opensInt (opensF_cons (by kernel_rfl) (by kernel_rfl) opensVal (opensF_cons (by kernel_rfl) (by kernel_rfl) opensVal (opensF_cons (by kernel_rfl) (by kernel_rfl) opensInt (opensF_cons (by kernel_rfl) (by kernel_rfl) opensInt (opensF_nil _ _))))))
theorem opensInst : Opens Try.prog 51 instR := opens_map opensInstP (fun p => ⟨p.1, p.2.1.1, p.2.1.2.1, p.2.2.1.1, p.2.2.1.2.1, p.2.2.2.1, p.2.2.2.2.1⟩) (by
  rintro w S cs ⟨op, ⟨la, ln, _⟩, ⟨ra, rn, _⟩, n, u, _⟩ h
  obtain ⟨c0, q0, e0, ⟨a0, h0⟩, h'⟩ := pair_inv h
  obtain ⟨c1, q1, e1, h1, h''⟩ := pair_inv h'
  obtain ⟨c2, q2, e2, h2, h3⟩ := pair_inv h''
  obtain ⟨c3, q3, e3, ⟨a3, h3'⟩, h4⟩ := pair_inv h3
  obtain ⟨c4, q4, e4, ⟨a4, h4'⟩, h5⟩ := pair_inv h4
  have h5 : q4 = [] := h5
  obtain ⟨d0, k0, f0, ⟨b0, g0⟩, m0⟩ := pair_inv h1
  obtain ⟨d1, k1, f1, ⟨b1, g1⟩, m1⟩ := pair_inv m0
  have m1 : k1 = [] := m1
  obtain ⟨d2, k2, f2, ⟨b2, g2⟩, m2⟩ := pair_inv h2
  obtain ⟨d3, k3, f3, ⟨b3, g3⟩, m3⟩ := pair_inv m2
  have m3 : k3 = [] := m3
  refine ⟨?_, wf_i64 h0, wf_i64 g0, wf_i64 g1, wf_i64 g2, wf_i64 g3, wf_i64 h3', wf_i64 h4'⟩
  rw [e0, e1, e2, e3, e4, h5, a0, f0, f1, m1, b0, b1, f2, f3, m3, b2, b3, a3, a4]
  rfl)
theorem opensInsts : Opens Try.prog 22 (sliceR instR) := opens_slice Try.underlying22 (by kernel_rfl) (by decide) opensInst
theorem opensI64s : Opens Try.prog 23 (sliceR (intR .i64)) := opens_slice Try.underlying23 (by kernel_rfl) (by decide) opensI64
theorem opensIntsE : Opens Try.prog 24 (sliceR (intR .i64)) := opens_slice Try.underlying24 (by kernel_rfl) (by decide) opensInt
def stP : Rep (List Int × Int × Int × List Int × List Int × Unit) := pairR (sliceR (intR .i64)) (pairR (intR .i64) (pairR (intR .i64) (pairR (sliceR (intR .i64)) (pairR (sliceR (intR .i64)) nilR))))
theorem opensStP : Opens Try.prog 26 stP :=
  opens_struct Try.underlying26 (by kernel_rfl) (opensF_cons (by kernel_rfl) (by kernel_rfl) opensI64s (opensF_cons (by kernel_rfl) (by kernel_rfl) opensInt (opensF_cons (by kernel_rfl) (by kernel_rfl) opensInt (opensF_cons (by kernel_rfl) (by kernel_rfl) opensIntsE (opensF_cons (by kernel_rfl) (by kernel_rfl) opensIntsE (opensF_nil _ _))))))
/-- a state's cells -/
structure StAt (w : World) (S : Nat → Prop) (cs : Array Value) (s : St) (vv dv cv : Value) : Prop where
  cells : cs = #[vv, .int .i64 s.opn, .int .i64 s.don, dv, cv]
  vals : (sliceR (intR .i64)).one w S vv s.vals
  did : (sliceR (intR .i64)).one w S dv s.did
  cnt : (sliceR (intR .i64)).one w S cv s.cnt
  opn : ok64 s.opn
  don : ok64 s.don
theorem open_st {H : Type} {enc : TypeId × Value → H} {w : World} {fuel : Nat} {cs : Array Value} {x : DataW H × List MemPlace} (h : DataW.trod enc Try.prog w 0 (fun _ => true) true fuel 26 cs.toList = some x) :
    ∃ s vv dv cv, StAt w (fun b => b < w.heap.size) cs s vv dv cv := by
  obtain ⟨⟨vals, o, d, did, cnt, _⟩, h⟩ := opensStP H enc w fuel _ _ h
  obtain ⟨c0, q0, e0, h0, h⟩ := pair_inv h
  obtain ⟨c1, q1, e1, ⟨e1', h1⟩, h⟩ := pair_inv h
  obtain ⟨c2, q2, e2, ⟨e2', h2⟩, h⟩ := pair_inv h
  obtain ⟨c3, q3, e3, h3, h⟩ := pair_inv h
  obtain ⟨c4, q4, e4, h4, h⟩ := pair_inv h
  obtain rfl : q4 = [] := h
  obtain ⟨vv, rfl, h0⟩ := one_inv (r := sliceR (intR .i64)) rfl h0
  obtain ⟨dv, rfl, h3⟩ := one_inv (r := sliceR (intR .i64)) rfl h3
  obtain ⟨cv, rfl, h4⟩ := one_inv (r := sliceR (intR .i64)) rfl h4
  refine ⟨⟨vals, o, d, did, cnt⟩, vv, dv, cv, ?_, h0, h3, h4, wf_i64 h1, wf_i64 h2⟩
  apply Array.ext'
  rw [e0, e1, e2, e3, e4, e1', e2']
  rfl
end
section
open Go.RowKit

theorem opensStr : Opens Try.prog 9 strR := opens_string Try.underlying9
theorem opensBoolM : Opens Try.prog 4 boolR := opens_bool Try.underlying4
theorem opensNameInt {t : TypeId} (h : Opens Try.prog t (pairR strR (pairR (intR .i64) nilR))) : Opens Try.prog t nameIntR := opens_map h (fun p => (p.1, p.2.1)) (by
  rintro w S cs ⟨s, n, _⟩ h
  obtain ⟨c0, q0, e0, ⟨a0, h0⟩, h⟩ := pair_inv h
  obtain ⟨c1, q1, e1, ⟨a1, h1⟩, h⟩ := pair_inv h
  have h : q1 = [] := h
  exact ⟨by rw [e0, e1, a0, a1, h]; rfl, h0, wf_i64 h1⟩)
theorem opensStage : Opens Try.prog 194 nameIntR := opensNameInt (opens_struct Try.underlying194 (by kernel_rfl) (opensF_cons (by kernel_rfl) (by kernel_rfl) opensStr (opensF_cons (by kernel_rfl) (by kernel_rfl) opensInt (opensF_nil _ _))))
theorem opensRole : Opens Try.prog 154 nameIntR := opensNameInt (opens_struct Try.underlying154 (by kernel_rfl) (opensF_cons (by kernel_rfl) (by kernel_rfl) opensStr (opensF_cons (by kernel_rfl) (by kernel_rfl) opensInt (opensF_nil _ _))))
theorem opensSod : Opens Try.prog 168 intIntR := opens_map (r := pairR (intR .i64) (pairR (intR .i64) nilR)) (opens_struct Try.underlying168 (by kernel_rfl) (opensF_cons (by kernel_rfl) (by kernel_rfl) opensInt (opensF_cons (by kernel_rfl) (by kernel_rfl) opensInt (opensF_nil _ _)))) (fun p => (p.1, p.2.1)) (by
  rintro w S cs ⟨s, n, _⟩ h
  obtain ⟨c0, q0, e0, ⟨a0, h0⟩, h⟩ := pair_inv h
  obtain ⟨c1, q1, e1, ⟨a1, h1⟩, h⟩ := pair_inv h
  have h : q1 = [] := h
  exact ⟨by rw [e0, e1, a0, a1, h]; rfl, wf_i64 h0, wf_i64 h1⟩)
theorem opensSentry : Opens Try.prog 196 sentryR := opens_map (r := pairR boolR (pairR (intR .i64) nilR)) (opens_struct Try.underlying196 (by kernel_rfl) (opensF_cons (by kernel_rfl) (by kernel_rfl) opensBoolM (opensF_cons (by kernel_rfl) (by kernel_rfl) opensInt (opensF_nil _ _)))) (fun p => (p.1, p.2.1)) (by
  rintro w S cs ⟨s, n, _⟩ h
  obtain ⟨c0, q0, e0, a0, h⟩ := pair_inv h
  have a0 : c0 = [.bool s] := a0
  obtain ⟨c1, q1, e1, ⟨a1, h1⟩, h⟩ := pair_inv h
  have h : q1 = [] := h
  exact ⟨by rw [e0, e1, a0, a1, h]; rfl, wf_i64 h1⟩)
theorem opensGuard : Opens Try.prog 78 gdR := opens_map (r := pairR (intR .i64) (pairR (intR .i64) (pairR (sliceR instR) nilR))) (opens_struct Try.underlying78 (by kernel_rfl) (opensF_cons (by kernel_rfl) (by kernel_rfl) opensInt (opensF_cons (by kernel_rfl) (by kernel_rfl) opensInt (opensF_cons (by kernel_rfl) (by kernel_rfl) opensInsts (opensF_nil _ _))))) (fun p => ⟨p.1, p.2.1, p.2.2.1⟩) (by
  rintro w S cs ⟨s, n, l, _⟩ h
  obtain ⟨c0, q0, e0, ⟨a0, h0⟩, h⟩ := pair_inv h
  obtain ⟨c1, q1, e1, ⟨a1, h1⟩, h⟩ := pair_inv h
  obtain ⟨c2, q2, e2, h2, h⟩ := pair_inv h
  have h : q2 = [] := h
  obtain ⟨cv, rfl, h2⟩ := one_inv (r := sliceR instR) rfl h2
  exact ⟨cv, by rw [e0, e1, e2, a0, a1, h]; rfl, h2, wf_i64 h0, wf_i64 h1⟩)
theorem opensMile : Opens Try.prog 80 mlR := opens_map (r := pairR strR (pairR (intR .i64) (pairR (intR .i64) (pairR (sliceR instR) (pairR boolR nilR))))) (opens_struct Try.underlying80 (by kernel_rfl) (opensF_cons (by kernel_rfl) (by kernel_rfl) opensStr (opensF_cons (by kernel_rfl) (by kernel_rfl) opensInt (opensF_cons (by kernel_rfl) (by kernel_rfl) opensInt (opensF_cons (by kernel_rfl) (by kernel_rfl) opensInsts (opensF_cons (by kernel_rfl) (by kernel_rfl) opensBoolM (opensF_nil _ _))))))) (fun p => ⟨p.1, p.2.1, p.2.2.1, p.2.2.2.1, p.2.2.2.2.1⟩) (by
  rintro w S cs ⟨nm, s, n, l, b, _⟩ h
  obtain ⟨c9, q9, e9, ⟨a9, h9⟩, h⟩ := pair_inv h
  obtain ⟨c0, q0, e0, ⟨a0, h0⟩, h⟩ := pair_inv h
  obtain ⟨c1, q1, e1, ⟨a1, h1⟩, h⟩ := pair_inv h
  obtain ⟨c2, q2, e2, h2, h⟩ := pair_inv h
  obtain ⟨c3, q3, e3, a3, h⟩ := pair_inv h
  have a3 : c3 = [.bool b] := a3
  have h : q3 = [] := h
  obtain ⟨cv, rfl, h2⟩ := one_inv (r := sliceR instR) rfl h2
  exact ⟨cv, by rw [e9, e0, e1, e2, e3, a9, a0, a1, a3, h]; rfl, h2, wf_i64 h0, wf_i64 h1, h9⟩)
theorem opensEvent : Opens Try.prog 76 evR := opens_map (r := pairR strR (pairR (intR .i64) (pairR (intR .i64) (pairR (sliceR (intR .i64)) (pairR (intR .i64) nilR))))) (opens_struct Try.underlying76 (by kernel_rfl) (opensF_cons (by kernel_rfl) (by kernel_rfl) opensStr (opensF_cons (by kernel_rfl) (by kernel_rfl) opensInt (opensF_cons (by kernel_rfl) (by kernel_rfl) opensInt (opensF_cons (by kernel_rfl) (by kernel_rfl) opensIntsE (opensF_cons (by kernel_rfl) (by kernel_rfl) opensInt (opensF_nil _ _))))))) (fun p => ⟨p.1, p.2.1, p.2.2.1, p.2.2.2.1, p.2.2.2.2.1⟩) (by
  rintro w S cs ⟨nm, s, n, l, b, _⟩ h
  obtain ⟨c9, q9, e9, ⟨a9, h9⟩, h⟩ := pair_inv h
  obtain ⟨c0, q0, e0, ⟨a0, h0⟩, h⟩ := pair_inv h
  obtain ⟨c1, q1, e1, ⟨a1, h1⟩, h⟩ := pair_inv h
  obtain ⟨c2, q2, e2, h2, h⟩ := pair_inv h
  obtain ⟨c3, q3, e3, ⟨a3, h3⟩, h⟩ := pair_inv h
  have h : q3 = [] := h
  obtain ⟨cv, rfl, h2⟩ := one_inv (r := sliceR (intR .i64)) rfl h2
  exact ⟨cv, by rw [e9, e0, e1, e2, e3, a9, a0, a1, a3, h]; rfl, h2, wf_i64 h0, wf_i64 h1, wf_i64 h3, h9⟩)
abbrev modP := pairR (sliceR strR) (pairR (sliceR (intR .i64)) (pairR (sliceR strR) (pairR (sliceR nameIntR) (pairR (sliceR nameIntR) (pairR (sliceR evR) (pairR (sliceR gdR) (pairR (sliceR mlR) (pairR (sliceR intIntR) (pairR (sliceR sentryR) nilR)))))))))
set_option maxRecDepth 100000 in
theorem opensModP : Opens Try.prog 47 modP := opens_struct Try.underlying47 (by kernel_rfl) (opensF_cons (by kernel_rfl) (by kernel_rfl) (opens_slice Try.underlying38 (by kernel_rfl) (by decide) opensStr) (opensF_cons (by kernel_rfl) (by kernel_rfl) (opens_slice Try.underlying23 (by kernel_rfl) (by decide) opensI64) (opensF_cons (by kernel_rfl) (by kernel_rfl) (opens_slice Try.underlying38 (by kernel_rfl) (by decide) opensStr) (opensF_cons (by kernel_rfl) (by kernel_rfl) (opens_slice Try.underlying39 (by kernel_rfl) (by decide) opensRole) (opensF_cons (by kernel_rfl) (by kernel_rfl) (opens_slice Try.underlying40 (by kernel_rfl) (by decide) opensStage) (opensF_cons (by kernel_rfl) (by kernel_rfl) (opens_slice Try.underlying41 (by kernel_rfl) (by decide) opensEvent) (opensF_cons (by kernel_rfl) (by kernel_rfl) (opens_slice Try.underlying42 (by kernel_rfl) (by decide) opensGuard) (opensF_cons (by kernel_rfl) (by kernel_rfl) (opens_slice Try.underlying43 (by kernel_rfl) (by decide) opensMile) (opensF_cons (by kernel_rfl) (by kernel_rfl) (opens_slice Try.underlying44 (by kernel_rfl) (by decide) opensSod) (opensF_cons (by kernel_rfl) (by kernel_rfl) (opens_slice Try.underlying45 (by kernel_rfl) (by decide) opensSentry) (opensF_nil _ _)))))))))))
theorem open_mod {H : Type} {enc : TypeId × Value → H} {w : World} {fuel : Nat} {cs : Array Value} {x : DataW H × List MemPlace} (h : DataW.trod enc Try.prog w 0 (fun _ => true) true fuel 47 cs.toList = some x) :
    ∃ (V : MV) (m : Mod), cs = V.cells ∧ ModI w V m := by
  obtain ⟨⟨attrs, inits, users, roles, stages, events, guards, miles, sods, order, _⟩, h⟩ := opensModP H enc w fuel _ _ h
  obtain ⟨c0, q0, e0, h0, h⟩ := pair_inv h
  obtain ⟨c1, q1, e1, h1, h⟩ := pair_inv h
  obtain ⟨c2, q2, e2, h2, h⟩ := pair_inv h
  obtain ⟨c3, q3, e3, h3, h⟩ := pair_inv h
  obtain ⟨c4, q4, e4, h4, h⟩ := pair_inv h
  obtain ⟨c5, q5, e5, h5, h⟩ := pair_inv h
  obtain ⟨c6, q6, e6, h6, h⟩ := pair_inv h
  obtain ⟨c7, q7, e7, h7, h⟩ := pair_inv h
  obtain ⟨c8, q8, e8, h8, h⟩ := pair_inv h
  obtain ⟨c9, q9, e9, h9, h⟩ := pair_inv h
  obtain rfl : q9 = [] := h
  obtain ⟨v0, rfl, h0⟩ := one_inv (r := sliceR strR) rfl h0
  obtain ⟨v1, rfl, h1⟩ := one_inv (r := sliceR (intR .i64)) rfl h1
  obtain ⟨v2, rfl, h2⟩ := one_inv (r := sliceR strR) rfl h2
  obtain ⟨v3, rfl, h3⟩ := one_inv (r := sliceR nameIntR) rfl h3
  obtain ⟨v4, rfl, h4⟩ := one_inv (r := sliceR nameIntR) rfl h4
  obtain ⟨v5, rfl, h5⟩ := one_inv (r := sliceR evR) rfl h5
  obtain ⟨v6, rfl, h6⟩ := one_inv (r := sliceR gdR) rfl h6
  obtain ⟨v7, rfl, h7⟩ := one_inv (r := sliceR mlR) rfl h7
  obtain ⟨v8, rfl, h8⟩ := one_inv (r := sliceR intIntR) rfl h8
  obtain ⟨v9, rfl, h9⟩ := one_inv (r := sliceR sentryR) rfl h9
  refine ⟨⟨v0, v1, v2, v3, v4, v5, v6, v7, v8, v9⟩, ⟨attrs, inits, users, roles, stages, events, guards, miles, sods, order⟩, ?_, ⟨h0, h1, h2, h3, h4, h5, h6, h7, h8, h9⟩⟩
  apply Array.ext'
  rw [e0, e1, e2, e3, e4, e5, e6, e7, e8, e9]
  rfl
end
section
open Go.RowKit
def Into {α : Type} (r : Rep α) (f : α → List AV) : Prop := ∀ (w : World) (S : Nat → Prop) (cs : List Value) (x : α), r.at_ w S cs x → (f x).length = r.size ∧ ∀ (j : Nat) (u : Value) (av : AV), cs[j]? = some u → (f x)[j]? = some av → RT w S u av ∧ u.oneCell' = true
theorem Into.slice {α : Type} {r : Rep α} {f : α → List AV} (h : Into r f) {w : World} {S : Nat → Prop} {v : Value} {l : List α} (hv : (sliceR r).one w S v l) : RT w S v (.sl r.size (l.map f)) := by
  obtain ⟨A, c, rfl, h1, h2⟩ := slice_form hv
  by_cases h0 : 0 < l.length
  · obtain ⟨b, o, rfl, hb, hrow⟩ := slice_some hv h0
    classical
    let cs : Nat → List Value := fun i => if hi : i < l.length then (hrow i hi).choose else []
    have hcs : ∀ i (hi : i < l.length), (∀ (j : Nat) (u : Value), (cs i)[j]? = some u → w.cell? ⟨b, o + i * r.size + j, none⟩ = some u) ∧ r.at_ w S (cs i) l[i] := fun i hi => by
      have := (hrow i hi).choose_spec
      simpa [cs, hi] using this
    have key : ∀ (i j : Nat) (row : List AV) (av : AV), (l.map f)[i]? = some row → row[j]? = some av → ∃ hi : i < l.length, (cs i)[j]? = some ((cs i).getD j undef) ∧ RT w S ((cs i).getD j undef) av ∧ ((cs i).getD j undef).oneCell' = true := fun i j row av h3 h4 => by
      have hi : i < l.length := by
        have := (List.getElem?_eq_some_iff.1 h3).1
        simpa using this
      have hf : row = f l[i] := by
        rw [List.getElem?_map, List.getElem?_eq_getElem hi] at h3
        exact (Option.some.inj h3).symm
      subst hf
      obtain ⟨h5, h6⟩ := h w S (cs i) l[i] (hcs i hi).2
      have hj : j < (cs i).length := by
        rw [r.len (hcs i hi).2, ← h5]
        exact (List.getElem?_eq_some_iff.1 h4).1
      have e : (cs i)[j]? = some ((cs i).getD j undef) := by
        rw [List.getD_eq_getElem?_getD, List.getElem?_eq_getElem hj]
        rfl
      exact ⟨hi, e, h6 j _ av e h4⟩
    refine .sl _ _ c r.size _ b o (fun i j => (cs i).getD j undef) (by simp) h1 h2 (fun _ => ⟨rfl, hb⟩) (fun row hr => ?_) (fun _ i j row av h3 h4 => ?_) (fun i j row av h3 h4 => (key i j row av h3 h4).elim fun _ h => h.2.2) (fun i j row av h3 h4 => (key i j row av h3 h4).elim fun _ h => h.2.1)
    · obtain ⟨i, hi, rfl⟩ := List.getElem_of_mem hr
      have hi : i < l.length := by simpa using hi
      simp only [List.getElem_map]
      exact (h w S (cs i) l[i] (hcs i hi).2).1
    · obtain ⟨hi, h5, _⟩ := key i j row av h3 h4
      exact (hcs i hi).1 j _ h5
  · have : l = [] := List.length_eq_zero_iff.1 (by omega)
    subst this
    exact .sl A 0 c r.size [] 0 0 (fun _ _ => undef) rfl h1 h2 (fun h => by omega) (by simp) (fun h => by omega) (by simp) (by simp)
theorem into_cells {α : Type} {r : Rep α} {f : α → List AV} (g : α → List Value) (hg : ∀ w S cs x, r.at_ w S cs x → cs = g x) (hs : ∀ x, (g x).length = r.size) (ho : ∀ x u, u ∈ g x → u.oneCell' = true) (hf : ∀ x, f x = (g x).map .c) : Into r f := fun w S cs x h => by
  obtain rfl := hg w S cs x h
  rw [hf]
  refine ⟨by simp [hs], fun j u av h1 h2 => ?_⟩
  rw [List.getElem?_map, h1] at h2
  cases h2
  exact ⟨.c u, ho x u (List.mem_of_getElem? h1)⟩
theorem into_str : Into strR (fun s => [eS s]) := into_cells (fun s => [.string s]) (fun w S cs x h => h.1) (fun x => rfl) (fun x u h => by simp at h; subst h; rfl) (fun x => rfl)
theorem into_int : Into (intR .i64) (fun n => [eI n]) := into_cells (fun n => [.int .i64 n]) (fun w S cs x h => h.1) (fun x => rfl) (fun x u h => by simp at h; subst h; rfl) (fun x => rfl)
theorem into_ni : Into nameIntR eNI := into_cells (fun p => [.string p.1, .int .i64 p.2]) (fun w S cs x h => h.1) (fun x => rfl) (fun x u h => by simp at h; rcases h with rfl | rfl <;> rfl) (fun x => rfl)
theorem into_ii : Into intIntR eII := into_cells (fun p => [.int .i64 p.1, .int .i64 p.2]) (fun w S cs x h => h.1) (fun x => rfl) (fun x u h => by simp at h; rcases h with rfl | rfl <;> rfl) (fun x => rfl)
theorem into_bi : Into sentryR eBI := into_cells (fun p => [.bool p.1, .int .i64 p.2]) (fun w S cs x h => h.1) (fun x => rfl) (fun x u h => by simp at h; rcases h with rfl | rfl <;> rfl) (fun x => rfl)
theorem into_inst : Into instR eInst := into_cells Inst.cells (fun w S cs x h => h.1) (fun x => rfl) (fun x u h => by simp [Inst.cells] at h; rcases h with rfl | rfl | rfl | rfl | rfl | rfl | rfl <;> rfl) (fun x => rfl)
theorem slice_one {α : Type} {r : Rep α} {w : World} {S : Nat → Prop} {v : Value} {l : List α} (h : (sliceR r).one w S v l) : v.oneCell' = true := by
  obtain ⟨A, c, rfl, _⟩ := slice_form h
  rfl
theorem into_gd : Into gdR eGd := fun w S cs x ⟨cv, h1, h2, _⟩ => by
  subst h1
  refine ⟨rfl, fun j u av h3 h4 => ?_⟩
  match j with
  | 0 => simp at h3 h4; subst h3; subst h4; exact ⟨.c _, rfl⟩
  | 1 => simp at h3 h4; subst h3; subst h4; exact ⟨.c _, rfl⟩
  | 2 => simp at h3 h4; subst h3; subst h4; exact ⟨into_inst.slice h2, slice_one h2⟩
  | j + 3 => simp at h3
theorem into_ml : Into mlR eMl := fun w S cs x ⟨cv, h1, h2, _⟩ => by
  subst h1
  refine ⟨rfl, fun j u av h3 h4 => ?_⟩
  match j with
  | 0 => simp at h3 h4; subst h3; subst h4; exact ⟨.c _, rfl⟩
  | 1 => simp at h3 h4; subst h3; subst h4; exact ⟨.c _, rfl⟩
  | 2 => simp at h3 h4; subst h3; subst h4; exact ⟨.c _, rfl⟩
  | 3 => simp at h3 h4; subst h3; subst h4; exact ⟨into_inst.slice h2, slice_one h2⟩
  | 4 => simp at h3 h4; subst h3; subst h4; exact ⟨.c _, rfl⟩
  | j + 5 => simp at h3
theorem into_ev : Into evR eEv := fun w S cs x ⟨cv, h1, h2, _⟩ => by
  subst h1
  refine ⟨rfl, fun j u av h3 h4 => ?_⟩
  match j with
  | 0 => simp at h3 h4; subst h3; subst h4; exact ⟨.c _, rfl⟩
  | 1 => simp at h3 h4; subst h3; subst h4; exact ⟨.c _, rfl⟩
  | 2 => simp at h3 h4; subst h3; subst h4; exact ⟨.c _, rfl⟩
  | 3 => simp at h3 h4; subst h3; subst h4; exact ⟨into_int.slice h2, slice_one h2⟩
  | 4 => simp at h3 h4; subst h3; subst h4; exact ⟨.c _, rfl⟩
  | j + 5 => simp at h3
theorem rt_mod {w : World} {V : MV} {m : Mod} (h : ModI w V m) : RT w (fun b => b < w.heap.size) (.agg V.cells) (.agg (eMod m)) := by
  refine .agg _ _ rfl fun j u av h1 h2 => ?_
  match j with
  | 0 => simp [MV.cells] at h1 h2; subst h1; subst h2; exact into_str.slice h.attrs
  | 1 => simp [MV.cells] at h1 h2; subst h1; subst h2; exact into_int.slice h.inits
  | 2 => simp [MV.cells] at h1 h2; subst h1; subst h2; exact into_str.slice h.users
  | 3 => simp [MV.cells] at h1 h2; subst h1; subst h2; exact into_ni.slice h.roles
  | 4 => simp [MV.cells] at h1 h2; subst h1; subst h2; exact into_ni.slice h.stages
  | 5 => simp [MV.cells] at h1 h2; subst h1; subst h2; exact into_ev.slice h.events
  | 6 => simp [MV.cells] at h1 h2; subst h1; subst h2; exact into_gd.slice h.guards
  | 7 => simp [MV.cells] at h1 h2; subst h1; subst h2; exact into_ml.slice h.miles
  | 8 => simp [MV.cells] at h1 h2; subst h1; subst h2; exact into_ii.slice h.sods
  | 9 => simp [MV.cells] at h1 h2; subst h1; subst h2; exact into_bi.slice h.order
  | j + 10 => simp at h2
theorem rt_st {w : World} {S : Nat → Prop} {cs : Array Value} {s : St} {vv dv cv : Value} (h : StAt w S cs s vv dv cv) : RT w S (.agg cs) (.agg (eSt s)) := by
  obtain ⟨rfl, h2, h3, h4, _, _⟩ := h
  refine .agg _ _ rfl fun j u av h5 h6 => ?_
  match j with
  | 0 => simp at h5 h6; subst h5; subst h6; exact into_int.slice h2
  | 1 => simp at h5 h6; subst h5; subst h6; exact .c _
  | 2 => simp at h5 h6; subst h5; subst h6; exact .c _
  | 3 => simp at h5 h6; subst h5; subst h6; exact into_int.slice h3
  | 4 => simp at h5 h6; subst h5; subst h6; exact into_int.slice h4
  | j + 5 => simp at h5
/-- every thing of a slice is one that may be -/
theorem slice_all {α : Type} {r : Rep α} {w : World} {S : Nat → Prop} {v : Value} {l : List α} {Q : α → Prop} (h : (sliceR r).one w S v l) (hq : ∀ cs x, r.at_ w S cs x → Q x) : ∀ x ∈ l, Q x := fun x hx => by
  obtain ⟨i, hi, rfl⟩ := List.getElem_of_mem hx
  obtain ⟨A, c, rfl, _⟩ := slice_form h
  obtain ⟨b, o, rfl, _, hrow⟩ := slice_some h (by omega)
  obtain ⟨cs, _, h2⟩ := hrow i hi
  exact hq cs _ h2
theorem mod_conds {w : World} {V : MV} {m : Mod} (h : ModI w V m) : condOk m :=
  ⟨slice_all h.guards fun cs x ⟨cv, _, h2, _⟩ => slice_all h2 fun cs y h3 => h3.2, slice_all h.miles fun cs x ⟨cv, _, h2, _⟩ => slice_all h2 fun cs y h3 => h3.2⟩
theorem st_vals {w : World} {S : Nat → Prop} {cs : Array Value} {s : St} {vv dv cv : Value} (h : StAt w S cs s vv dv cv) : ∀ x ∈ s.vals, ok64 x := slice_all h.vals fun cs x h2 => wf_i64 h2.2
end
end Go.Proofs.Ytfeclebkaambhaa
