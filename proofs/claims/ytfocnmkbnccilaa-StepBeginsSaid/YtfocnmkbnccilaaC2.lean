/-
  Contracts of old, said of abstract values; bstep's find, Ready and Fires. No condition but lengths.
-/
import Derived.Test.YtfocnmkbnccilaaCL
import Derived.Test.YtfocnmkbnccilaaNestD
import Derived.Test.YtfocnmkbnccilaaNestBothSpec
import Derived.Test.YtfocnmkbnccilaaEvHolds
set_option linter.unusedVariables false
set_option linter.unusedSimpArgs false
namespace Go.Proofs.Ytfocnmkbnccilaa
open Go.RowKit

theorem rt_insts {w : World} {S : Nat → Prop} {v : Value} {l : List Inst} (h : RT w S v (sInsts l)) (hl : ∀ x ∈ l, x.ok) : (sliceR instR).one w S v l := by
  obtain ⟨A, cap, rfl, hc, hm, _, hA⟩ := h.sl_inv
  refine ⟨A, cap, by simp, by simpa using hc, hm, fun h0 => ?_⟩
  obtain ⟨b, o, rfl, hb, U, hcell, hr, _⟩ := hA (by simpa using h0)
  refine ⟨b, o, rfl, hb, fun i hi => ⟨l[i].cells, fun j u hu => ?_, rfl, hl _ (List.getElem_mem hi)⟩⟩
  have h1 : (l.map eInst)[i]? = some (eInst l[i]) := by simp [hi]
  have h3 : ∀ (j : Nat) (u : Value), l[i].cells[j]? = some u → (eInst l[i])[j]? = some (AV.c u) := by
    intro j u hu
    unfold Inst.cells at hu
    match j with
    | 0 | 1 | 2 | 3 | 4 | 5 | 6 => simp at hu; subst hu; rfl
    | j + 7 => simp at hu
  have h4 := h3 j u hu
  have h2 := hcell i j _ _ h1 h4
  rw [rtc (hr i j _ _ h1 h4)] at h2
  exact h2
theorem has_A (s i : Int) : ADet Try.prog 105 [eI s, eI i] (val (.bool (hasB s i))) :=
  adet_of_calls (enters_of Try.func105 rfl (by decide)) fun S w vs hS hn hv => by
    obtain ⟨a, b, rfl⟩ := two_args hn
    obtain rfl := rtc (hv 0 a _ rfl rfl)
    obtain rfl := rtc (hv 1 b _ rfl rfl)
    exact (has_any s i w).mono fun e w' ⟨h1, h2⟩ => ⟨h1, h2 ▸ Below.refl _ _⟩
theorem with_A (s i : Int) : ADet Try.prog 76 [eI s, eI i] (val (.int .i64 (withB s i))) :=
  adet_of_calls (enters_of Try.func76 rfl (by decide)) fun S w vs hS hn hv => by
    obtain ⟨a, b, rfl⟩ := two_args hn
    obtain rfl := rtc (hv 0 a _ rfl rfl)
    obtain rfl := rtc (hv 1 b _ rfl rfl)
    exact (with_any s i w).mono fun e w' ⟨h1, h2⟩ => ⟨h1, h2 ▸ Below.refl _ _⟩
theorem without_A (s i : Int) : ADet Try.prog 85 [eI s, eI i] (val (.int .i64 (withoutB s i))) :=
  adet_of_calls (enters_of Try.func85 rfl (by decide)) fun S w vs hS hn hv => by
    obtain ⟨a, b, rfl⟩ := two_args hn
    obtain rfl := rtc (hv 0 a _ rfl rfl)
    obtain rfl := rtc (hv 1 b _ rfl rfl)
    exact (without_any s i w).mono fun e w' ⟨h1, h2⟩ => ⟨h1, h2 ▸ Below.refl _ _⟩
theorem below_A (l : List Int) (i : Int) (hl : l.length ≤ 1073741824) (ho : ∀ x ∈ l, ok64 x) : ADet Try.prog 83 [sI l, eI i] (own 3 1 ((belowL l i).map fun n => [eI n])) :=
  adet_of_list (enters_of Try.func83 rfl (by decide)) fun S w vs hS hn hv => by
    obtain ⟨a, b, rfl⟩ := two_args hn
    obtain rfl := rtc (hv 1 b _ rfl rfl)
    exact below_any l a i w hl (rt_ints (hv 0 a _ rfl rfl) hS ho)
theorem circle_A (l : List Int) (hl : l.length ≤ 1073741824) (ho : ∀ x ∈ l, ok64 x) : ADet Try.prog 33 [sI l] (val (.int .i64 (circleL l))) :=
  adet_of_calls (enters_of Try.func33 rfl (by decide)) fun S w vs hS hn hv => by
    obtain ⟨a, rfl⟩ : ∃ a, vs = #[a] := ⟨vs[0]'(by simp at hn; omega), by apply Array.ext (by simpa using hn); intro i h1 h2; simp at h2; subst h2; rfl⟩
    exact refCircle_any l a w hl (rt_ints (hv 0 a _ rfl rfl) hS ho)
theorem holds_A (l : List Inst) (s : St) (hl : l.length ≤ 900) (ho : ∀ x ∈ l, x.ok) (hs : ∀ x ∈ s.vals, ok64 x) : ADet Try.prog 82 [sInsts l, .agg (eSt s)] ⟨.tup [eB (optB (holdsO l s)), eI (optE (holdsO l s))], [], 0⟩ :=
  ⟨enters_of Try.func82 rfl (by decide), fun S w vs hS hn hv => by
    obtain ⟨a, b, rfl⟩ := two_args hn
    have hb := hv 1 b _ rfl rfl
    cases hb with
    | agg xs cs hxn hr =>
      have hx : ∀ j (hj : j < 5), ∃ x, xs[j]? = some x := fun j hj => ⟨_, Array.getElem?_eq_getElem (by simp at hxn; omega)⟩
      obtain ⟨x0, e0⟩ := hx 0 (by omega)
      obtain ⟨x1, e1⟩ := hx 1 (by omega)
      obtain ⟨x2, e2⟩ := hx 2 (by omega)
      obtain ⟨x3, e3⟩ := hx 3 (by omega)
      obtain ⟨x4, e4⟩ := hx 4 (by omega)
      have hxs : xs = #[x0, x1, x2, x3, x4] := by
        apply Array.ext_getElem?
        intro j
        match j with
        | 0 => simpa using e0
        | 1 => simpa using e1
        | 2 => simpa using e2
        | 3 => simpa using e3
        | 4 => simpa using e4
        | j + 5 =>
          rw [Array.getElem?_eq_none (by simp at hxn; omega)]
          simp
      obtain rfl := rtc (hr 1 x1 _ e1 rfl)
      obtain rfl := rtc (hr 2 x2 _ e2 rfl)
      subst hxs
      have h0 := hr 0 x0 _ e0 rfl
      refine (holds_any l s a x0 x3 x4 S (fun b => b < w.heap.size) w (rt_insts (hv 0 a _ rfl rfl) ho) hS hl (rt_ints h0 hS hs) (fun b hb => hb)).mono fun e w' ⟨h1, h2⟩ => ?_
      refine ⟨_, fun _ => undef, _, rfl, ⟨fun id o h => (by cases h), ⟨trivial, trivial, trivial⟩⟩, h1, ⟨h2, fun id o h => (by cases h), fun id id' o o' g h => (by cases h)⟩, .tree (.tup _ _ rfl fun j x av h3 h4 => ?_)⟩
      match j with
      | 0 => simp at h3 h4; subst h3; subst h4; exact .c _
      | 1 => simp at h3 h4; subst h3; subst h4; exact .c _
      | j + 2 => simp at h3⟩

/-! ### bstep -/
def sentryM (m : Mod) (x : Bool × Int) : Option (Int × Int × List Inst × Int) :=
  if x.1 = true then (if 0 ≤ x.2 then (m.miles[x.2.toNat]?).map fun K => (K.stage, K.event, K.cond, x.2) else none)
  else (if 0 ≤ x.2 then (m.guards[x.2.toNat]?).map fun g => (g.stage, g.event, g.cond, -1) else none)
def findR (m : Mod) (x : Bool × Int) : Res :=
  match sentryM m x with
  | some (st, ev, cond, mi) => ⟨.tup [.agg [eI st, eI ev, sInsts cond, eI mi], eB (decide (0 ≤ st) && decide (st < m.stages.length))], [], 0⟩
  | none => ⟨.tup [.agg [eI 0, eI 0, .c (.slice none 0 0), eI 0], eB false], [], 0⟩
theorem find_ok (m : Mod) (x : Bool × Int) : (findR m x).Ok := by
  unfold findR
  split <;> exact ⟨fun id o h => (by cases h), ⟨⟨trivial, trivial, trivial, trivial, trivial⟩, trivial, trivial⟩⟩
set_option maxRecDepth 100000 in
set_option maxHeartbeats 4000000 in
theorem find_A (m : Mod) (xm : Bool) (xn : Int) : ADet Try.prog 81 [.agg (eMod m), .agg [eB xm, eI xn]] (findR m (xm, xn)) := by
  refine adet_of_code mixedT Try.func81 rfl (by decide) Try.ntmps81 Try.results81 rfl (find_ok m (xm, xn)) ?_
  by_cases h0 : 0 ≤ xn
  · obtain ⟨k, rfl⟩ : ∃ k : Nat, xn = (k : Int) := ⟨xn.toNat, by omega⟩
    cases xm
    · by_cases hk : k < m.guards.length
      · have e : sentryM m (false, (k : Int)) = some (m.guards[k].stage, m.guards[k].event, m.guards[k].cond, -1) := by simp [sentryM, hk]
        have eR : findR m (false, (k : Int)) = ⟨.tup [.agg [eI m.guards[k].stage, eI m.guards[k].event, sInsts m.guards[k].cond, eI (-1)], eB (decide (0 ≤ m.guards[k].stage) && decide (m.guards[k].stage < m.stages.length))], [], 0⟩ := by unfold findR; rw [e]
        rw [eR]
        (repeat' (first | simp (maxSteps := 5000000) (implicitDefEqProofs := false) only [ruA, ruB, aEv, aTake, aLoad, aField, aIndex, aLen, aBin, bin2, aUn, un1, aExtract, aConv, ASt.get, aget, ASt.put, aStore, aBox, aAppend, aBuildSlice, aMake, aBuild, aFill, oneParts, allC, aBinS, yv, aCells, oneC, oneCL, treeC, treeL, aLit, aDst, aSrc, appTab, Value.cells, Value.oneCell', envOf, aResL, aOne, ↓reduceIte, reduceCtorEq, forall_const, Nat.reduceLT, Nat.reduceEqDiff, Nat.reduceAdd, Nat.reduceMul, Nat.reduceSub, Nat.reduceLeDiff, Nat.reduceBEq, eq_self, implies_true, ne_eq, dref, dref1, dref2, aExecS, aStoreB, aTakes, aTakeE, aElder, aFrom, aFresh, isLoad, aBuildSlice1, frzs, frz1, ownIds, AV.frz, AV.frzL, frzEnv, AV.shift, AV.shiftL, aFieldV, aSliceW, aSliceO, aSlice, aSliceR, aSliceS, aBd, aMax, frzAVs, frzAV, frzTab, AObj.frz, aMM, aNilS, tyA_117, tyS_117, tyZ_117, tyF_57_0, tyA_4, tyS_4, tyF_57_1, tyA_3, tyS_3, tyK_3, tyF_32_7, tyA_28, tyS_28, tyE_28, tyK_28, tyA_64, tyS_64, tyZ_64, tyF_64_1, tyF_64_2, tyF_64_3, tyA_60, tyS_60, tyB_117, tyF_32_6, tyA_27, tyS_27, tyE_27, tyK_27, tyA_62, tyS_62, tyZ_62, tyF_62_0, tyF_62_1, tyF_62_2, tyF_117_0, tyF_32_4, tyA_25, tyS_25, tyE_25, tyK_25, row_at, hk] | (with_reducible refine aIf_split (fun _ => ?_) (fun _ => ?_)) | (with_reducible refine aSel_split (fun _ => ?_) (fun _ => ?_)) | (with_reducible refine aGd_split (fun _ => ?_) (fun _ => ?_))))
        refine aDraw_held [2] [0, 1, 2, 3, 4, 5, 6, 7, 8, 9, 10, 11] (.exec 12 (.exec 13 .done)) (by kernel_rfl) (by simp [ATab.get_cons]) ?_
        (repeat' (first | simp (maxSteps := 5000000) (implicitDefEqProofs := false) only [ruA, ruB, aEv, aTake, aLoad, aField, aIndex, aLen, aBin, bin2, aUn, un1, aExtract, aConv, ASt.get, aget, ASt.put, aStore, aBox, aAppend, aBuildSlice, aMake, aBuild, aFill, oneParts, allC, aBinS, yv, aCells, oneC, oneCL, treeC, treeL, aLit, aDst, aSrc, appTab, Value.cells, Value.oneCell', envOf, aResL, aOne, ↓reduceIte, reduceCtorEq, forall_const, Nat.reduceLT, Nat.reduceEqDiff, Nat.reduceAdd, Nat.reduceMul, Nat.reduceSub, Nat.reduceLeDiff, Nat.reduceBEq, eq_self, implies_true, ne_eq, dref, dref1, dref2, aExecS, aStoreB, aTakes, aTakeE, aElder, aFrom, aFresh, isLoad, aBuildSlice1, frzs, frz1, ownIds, AV.frz, AV.frzL, frzEnv, AV.shift, AV.shiftL, aFieldV, aSliceW, aSliceO, aSlice, aSliceR, aSliceS, aBd, aMax, frzAVs, frzAV, frzTab, AObj.frz, aMM, aNilS, tyA_117, tyS_117, tyZ_117, tyF_57_0, tyA_4, tyS_4, tyF_57_1, tyA_3, tyS_3, tyK_3, tyF_32_7, tyA_28, tyS_28, tyE_28, tyK_28, tyA_64, tyS_64, tyZ_64, tyF_64_1, tyF_64_2, tyF_64_3, tyA_60, tyS_60, tyB_117, tyF_32_6, tyA_27, tyS_27, tyE_27, tyK_27, tyA_62, tyS_62, tyZ_62, tyF_62_0, tyF_62_1, tyF_62_2, tyF_117_0, tyF_32_4, tyA_25, tyS_25, tyE_25, tyK_25, row_at, hk] | (with_reducible refine aIf_split (fun _ => ?_) (fun _ => ?_)) | (with_reducible refine aSel_split (fun _ => ?_) (fun _ => ?_)) | (with_reducible refine aGd_split (fun _ => ?_) (fun _ => ?_))))
        · rename_i h
          exact gives_tree (by simp only [AV.ren, AV.renL, h, Bool.true_and])
        · rename_i h
          exact gives_tree (by simp only [AV.ren, AV.renL, h, Bool.false_and])
      · have eR : findR m (false, (k : Int)) = ⟨.tup [.agg [eI 0, eI 0, .c (.slice none 0 0), eI 0], eB false], [], 0⟩ := by simp [findR, sentryM, hk]
        rw [eR]
        (repeat' (first | simp (maxSteps := 5000000) (implicitDefEqProofs := false) only [ruA, ruB, aEv, aTake, aLoad, aField, aIndex, aLen, aBin, bin2, aUn, un1, aExtract, aConv, ASt.get, aget, ASt.put, aStore, aBox, aAppend, aBuildSlice, aMake, aBuild, aFill, oneParts, allC, aBinS, yv, aCells, oneC, oneCL, treeC, treeL, aLit, aDst, aSrc, appTab, Value.cells, Value.oneCell', envOf, aResL, aOne, ↓reduceIte, reduceCtorEq, forall_const, Nat.reduceLT, Nat.reduceEqDiff, Nat.reduceAdd, Nat.reduceMul, Nat.reduceSub, Nat.reduceLeDiff, Nat.reduceBEq, eq_self, implies_true, ne_eq, dref, dref1, dref2, aExecS, aStoreB, aTakes, aTakeE, aElder, aFrom, aFresh, isLoad, aBuildSlice1, frzs, frz1, ownIds, AV.frz, AV.frzL, frzEnv, AV.shift, AV.shiftL, aFieldV, aSliceW, aSliceO, aSlice, aSliceR, aSliceS, aBd, aMax, frzAVs, frzAV, frzTab, AObj.frz, aMM, aNilS, tyA_117, tyS_117, tyZ_117, tyF_57_0, tyA_4, tyS_4, tyF_57_1, tyA_3, tyS_3, tyK_3, tyF_32_7, tyA_28, tyS_28, tyE_28, tyK_28, tyA_64, tyS_64, tyZ_64, tyF_64_1, tyF_64_2, tyF_64_3, tyA_60, tyS_60, tyB_117, tyF_32_6, tyA_27, tyS_27, tyE_27, tyK_27, tyA_62, tyS_62, tyZ_62, tyF_62_0, tyF_62_1, tyF_62_2, tyF_117_0, tyF_32_4, tyA_25, tyS_25, tyE_25, tyK_25, row_at, hk] | (with_reducible refine aIf_split (fun _ => ?_) (fun _ => ?_)) | (with_reducible refine aSel_split (fun _ => ?_) (fun _ => ?_)) | (with_reducible refine aGd_split (fun _ => ?_) (fun _ => ?_))))
        exact gives_tree rfl
    · by_cases hk : k < m.miles.length
      · have e : sentryM m (true, (k : Int)) = some (m.miles[k].stage, m.miles[k].event, m.miles[k].cond, (k : Int)) := by simp [sentryM, hk]
        have eR : findR m (true, (k : Int)) = ⟨.tup [.agg [eI m.miles[k].stage, eI m.miles[k].event, sInsts m.miles[k].cond, eI k], eB (decide (0 ≤ m.miles[k].stage) && decide (m.miles[k].stage < m.stages.length))], [], 0⟩ := by unfold findR; rw [e]
        rw [eR]
        (repeat' (first | simp (maxSteps := 5000000) (implicitDefEqProofs := false) only [ruA, ruB, aEv, aTake, aLoad, aField, aIndex, aLen, aBin, bin2, aUn, un1, aExtract, aConv, ASt.get, aget, ASt.put, aStore, aBox, aAppend, aBuildSlice, aMake, aBuild, aFill, oneParts, allC, aBinS, yv, aCells, oneC, oneCL, treeC, treeL, aLit, aDst, aSrc, appTab, Value.cells, Value.oneCell', envOf, aResL, aOne, ↓reduceIte, reduceCtorEq, forall_const, Nat.reduceLT, Nat.reduceEqDiff, Nat.reduceAdd, Nat.reduceMul, Nat.reduceSub, Nat.reduceLeDiff, Nat.reduceBEq, eq_self, implies_true, ne_eq, dref, dref1, dref2, aExecS, aStoreB, aTakes, aTakeE, aElder, aFrom, aFresh, isLoad, aBuildSlice1, frzs, frz1, ownIds, AV.frz, AV.frzL, frzEnv, AV.shift, AV.shiftL, aFieldV, aSliceW, aSliceO, aSlice, aSliceR, aSliceS, aBd, aMax, frzAVs, frzAV, frzTab, AObj.frz, aMM, aNilS, tyA_117, tyS_117, tyZ_117, tyF_57_0, tyA_4, tyS_4, tyF_57_1, tyA_3, tyS_3, tyK_3, tyF_32_7, tyA_28, tyS_28, tyE_28, tyK_28, tyA_64, tyS_64, tyZ_64, tyF_64_1, tyF_64_2, tyF_64_3, tyA_60, tyS_60, tyB_117, tyF_32_6, tyA_27, tyS_27, tyE_27, tyK_27, tyA_62, tyS_62, tyZ_62, tyF_62_0, tyF_62_1, tyF_62_2, tyF_117_0, tyF_32_4, tyA_25, tyS_25, tyE_25, tyK_25, row_at, hk] | (with_reducible refine aIf_split (fun _ => ?_) (fun _ => ?_)) | (with_reducible refine aSel_split (fun _ => ?_) (fun _ => ?_)) | (with_reducible refine aGd_split (fun _ => ?_) (fun _ => ?_))))
        refine aDraw_held [2] [0, 1, 2, 3, 4, 5, 6, 7, 8, 9, 10, 11] (.exec 12 (.exec 13 .done)) (by kernel_rfl) (by simp [ATab.get_cons]) ?_
        (repeat' (first | simp (maxSteps := 5000000) (implicitDefEqProofs := false) only [ruA, ruB, aEv, aTake, aLoad, aField, aIndex, aLen, aBin, bin2, aUn, un1, aExtract, aConv, ASt.get, aget, ASt.put, aStore, aBox, aAppend, aBuildSlice, aMake, aBuild, aFill, oneParts, allC, aBinS, yv, aCells, oneC, oneCL, treeC, treeL, aLit, aDst, aSrc, appTab, Value.cells, Value.oneCell', envOf, aResL, aOne, ↓reduceIte, reduceCtorEq, forall_const, Nat.reduceLT, Nat.reduceEqDiff, Nat.reduceAdd, Nat.reduceMul, Nat.reduceSub, Nat.reduceLeDiff, Nat.reduceBEq, eq_self, implies_true, ne_eq, dref, dref1, dref2, aExecS, aStoreB, aTakes, aTakeE, aElder, aFrom, aFresh, isLoad, aBuildSlice1, frzs, frz1, ownIds, AV.frz, AV.frzL, frzEnv, AV.shift, AV.shiftL, aFieldV, aSliceW, aSliceO, aSlice, aSliceR, aSliceS, aBd, aMax, frzAVs, frzAV, frzTab, AObj.frz, aMM, aNilS, tyA_117, tyS_117, tyZ_117, tyF_57_0, tyA_4, tyS_4, tyF_57_1, tyA_3, tyS_3, tyK_3, tyF_32_7, tyA_28, tyS_28, tyE_28, tyK_28, tyA_64, tyS_64, tyZ_64, tyF_64_1, tyF_64_2, tyF_64_3, tyA_60, tyS_60, tyB_117, tyF_32_6, tyA_27, tyS_27, tyE_27, tyK_27, tyA_62, tyS_62, tyZ_62, tyF_62_0, tyF_62_1, tyF_62_2, tyF_117_0, tyF_32_4, tyA_25, tyS_25, tyE_25, tyK_25, row_at, hk] | (with_reducible refine aIf_split (fun _ => ?_) (fun _ => ?_)) | (with_reducible refine aSel_split (fun _ => ?_) (fun _ => ?_)) | (with_reducible refine aGd_split (fun _ => ?_) (fun _ => ?_))))
        · rename_i h
          exact gives_tree (by simp only [AV.ren, AV.renL, h, Bool.true_and])
        · rename_i h
          exact gives_tree (by simp only [AV.ren, AV.renL, h, Bool.false_and])
      · have eR : findR m (true, (k : Int)) = ⟨.tup [.agg [eI 0, eI 0, .c (.slice none 0 0), eI 0], eB false], [], 0⟩ := by simp [findR, sentryM, hk]
        rw [eR]
        (repeat' (first | simp (maxSteps := 5000000) (implicitDefEqProofs := false) only [ruA, ruB, aEv, aTake, aLoad, aField, aIndex, aLen, aBin, bin2, aUn, un1, aExtract, aConv, ASt.get, aget, ASt.put, aStore, aBox, aAppend, aBuildSlice, aMake, aBuild, aFill, oneParts, allC, aBinS, yv, aCells, oneC, oneCL, treeC, treeL, aLit, aDst, aSrc, appTab, Value.cells, Value.oneCell', envOf, aResL, aOne, ↓reduceIte, reduceCtorEq, forall_const, Nat.reduceLT, Nat.reduceEqDiff, Nat.reduceAdd, Nat.reduceMul, Nat.reduceSub, Nat.reduceLeDiff, Nat.reduceBEq, eq_self, implies_true, ne_eq, dref, dref1, dref2, aExecS, aStoreB, aTakes, aTakeE, aElder, aFrom, aFresh, isLoad, aBuildSlice1, frzs, frz1, ownIds, AV.frz, AV.frzL, frzEnv, AV.shift, AV.shiftL, aFieldV, aSliceW, aSliceO, aSlice, aSliceR, aSliceS, aBd, aMax, frzAVs, frzAV, frzTab, AObj.frz, aMM, aNilS, tyA_117, tyS_117, tyZ_117, tyF_57_0, tyA_4, tyS_4, tyF_57_1, tyA_3, tyS_3, tyK_3, tyF_32_7, tyA_28, tyS_28, tyE_28, tyK_28, tyA_64, tyS_64, tyZ_64, tyF_64_1, tyF_64_2, tyF_64_3, tyA_60, tyS_60, tyB_117, tyF_32_6, tyA_27, tyS_27, tyE_27, tyK_27, tyA_62, tyS_62, tyZ_62, tyF_62_0, tyF_62_1, tyF_62_2, tyF_117_0, tyF_32_4, tyA_25, tyS_25, tyE_25, tyK_25, row_at, hk] | (with_reducible refine aIf_split (fun _ => ?_) (fun _ => ?_)) | (with_reducible refine aSel_split (fun _ => ?_) (fun _ => ?_)) | (with_reducible refine aGd_split (fun _ => ?_) (fun _ => ?_))))
        exact gives_tree rfl
  · have eR : findR m (xm, xn) = ⟨.tup [.agg [eI 0, eI 0, .c (.slice none 0 0), eI 0], eB false], [], 0⟩ := by cases xm <;> simp [findR, sentryM, h0]
    rw [eR]
    cases xm
    all_goals
      (repeat' (first | simp (maxSteps := 5000000) (implicitDefEqProofs := false) only [ruA, ruB, aEv, aTake, aLoad, aField, aIndex, aLen, aBin, bin2, aUn, un1, aExtract, aConv, ASt.get, aget, ASt.put, aStore, aBox, aAppend, aBuildSlice, aMake, aBuild, aFill, oneParts, allC, aBinS, yv, aCells, oneC, oneCL, treeC, treeL, aLit, aDst, aSrc, appTab, Value.cells, Value.oneCell', envOf, aResL, aOne, ↓reduceIte, reduceCtorEq, forall_const, Nat.reduceLT, Nat.reduceEqDiff, Nat.reduceAdd, Nat.reduceMul, Nat.reduceSub, Nat.reduceLeDiff, Nat.reduceBEq, eq_self, implies_true, ne_eq, dref, dref1, dref2, aExecS, aStoreB, aTakes, aTakeE, aElder, aFrom, aFresh, isLoad, aBuildSlice1, frzs, frz1, ownIds, AV.frz, AV.frzL, frzEnv, AV.shift, AV.shiftL, aFieldV, aSliceW, aSliceO, aSlice, aSliceR, aSliceS, aBd, aMax, frzAVs, frzAV, frzTab, AObj.frz, aMM, aNilS, tyA_117, tyS_117, tyZ_117, tyF_57_0, tyA_4, tyS_4, tyF_57_1, tyA_3, tyS_3, tyK_3, tyF_32_7, tyA_28, tyS_28, tyE_28, tyK_28, tyA_64, tyS_64, tyZ_64, tyF_64_1, tyF_64_2, tyF_64_3, tyA_60, tyS_60, tyB_117, tyF_32_6, tyA_27, tyS_27, tyE_27, tyK_27, tyA_62, tyS_62, tyZ_62, tyF_62_0, tyF_62_1, tyF_62_2, tyF_117_0, tyF_32_4, tyA_25, tyS_25, tyE_25, tyK_25, h0] | (with_reducible refine aIf_split (fun _ => ?_) (fun _ => ?_)) | (with_reducible refine aSel_split (fun _ => ?_) (fun _ => ?_)) | (with_reducible refine aGd_split (fun _ => ?_) (fun _ => ?_))))
      exact gives_tree rfl
def aboveM (m : Mod) (opn st : Int) : Bool :=
  ((m.stages.getD st.toNat (⟨#[]⟩, 0)).2 == -1) || (decide ((m.stages.getD st.toNat (⟨#[]⟩, 0)).2 < m.stages.length) && hasB opn (m.stages.getD st.toNat (⟨#[]⟩, 0)).2)
set_option maxRecDepth 100000 in
theorem above_A (m : Mod) (s : St) (k : Nat) (hk : k < m.stages.length) : ADet Try.prog 106 [.agg (eMod m), .agg (eSt s), eI (k : Int)] (val (.bool (aboveM m s.opn k))) := by
  refine adet_of_code mixedT Try.func106 rfl (by decide) Try.ntmps106 Try.results106 rfl (val_ok _) ?_
  have e : aboveM m s.opn k = ((m.stages[k].2 == -1) || (decide (m.stages[k].2 < m.stages.length) && hasB s.opn m.stages[k].2)) := by simp [aboveM, hk]
  rw [e]
  (repeat' (first | simp (maxSteps := 5000000) (implicitDefEqProofs := false) only [ruA, ruB, aEv, aTake, aLoad, aField, aIndex, aLen, aBin, bin2, aUn, un1, aExtract, aConv, ASt.get, aget, ASt.put, aStore, aBox, aAppend, aBuildSlice, aMake, aBuild, aFill, oneParts, allC, aBinS, yv, aCells, oneC, oneCL, treeC, treeL, aLit, aDst, aSrc, appTab, Value.cells, Value.oneCell', envOf, aResL, aOne, ↓reduceIte, reduceCtorEq, forall_const, Nat.reduceLT, Nat.reduceEqDiff, Nat.reduceAdd, Nat.reduceMul, Nat.reduceSub, Nat.reduceLeDiff, Nat.reduceBEq, eq_self, implies_true, ne_eq, dref, dref1, dref2, aExecS, aStoreB, aTakes, aTakeE, aElder, aFrom, aFresh, isLoad, aBuildSlice1, frzs, frz1, ownIds, AV.frz, AV.frzL, frzEnv, AV.shift, AV.shiftL, aFieldV, aSliceW, aSliceO, aSlice, aSliceR, aSliceS, aBd, aMax, frzAVs, frzAV, frzTab, AObj.frz, aMM, aNilS, tyF_32_4, tyA_25, tyS_25, tyE_25, tyF_70_1, tyA_3, tyS_3, tyK_3, tyK_25, tyF_38_1, row_at, hk] | (with_reducible refine aIf_split (fun _ => ?_) (fun _ => ?_)) | (with_reducible refine aSel_split (fun _ => ?_) (fun _ => ?_)) | (with_reducible refine aGd_split (fun _ => ?_) (fun _ => ?_))))
  · rename_i h
    rw [h]; rfl
  · rename_i h1 h2
    refine callV (has_A _ _) ?_
    (repeat' (first | simp (maxSteps := 5000000) (implicitDefEqProofs := false) only [ruA, ruB, aEv, aTake, aLoad, aField, aIndex, aLen, aBin, bin2, aUn, un1, aExtract, aConv, ASt.get, aget, ASt.put, aStore, aBox, aAppend, aBuildSlice, aMake, aBuild, aFill, oneParts, allC, aBinS, yv, aCells, oneC, oneCL, treeC, treeL, aLit, aDst, aSrc, appTab, Value.cells, Value.oneCell', envOf, aResL, aOne, ↓reduceIte, reduceCtorEq, forall_const, Nat.reduceLT, Nat.reduceEqDiff, Nat.reduceAdd, Nat.reduceMul, Nat.reduceSub, Nat.reduceLeDiff, Nat.reduceBEq, eq_self, implies_true, ne_eq, dref, dref1, dref2, aExecS, aStoreB, aTakes, aTakeE, aElder, aFrom, aFresh, isLoad, aBuildSlice1, frzs, frz1, ownIds, AV.frz, AV.frzL, frzEnv, AV.shift, AV.shiftL, aFieldV, aSliceW, aSliceO, aSlice, aSliceR, aSliceS, aBd, aMax, frzAVs, frzAV, frzTab, AObj.frz, aMM, aNilS, tyF_32_4, tyA_25, tyS_25, tyE_25, tyF_70_1, tyA_3, tyS_3, tyK_3, tyK_25, tyF_38_1, row_at, hk] | (with_reducible refine aIf_split (fun _ => ?_) (fun _ => ?_)) | (with_reducible refine aSel_split (fun _ => ?_) (fun _ => ?_)) | (with_reducible refine aGd_split (fun _ => ?_) (fun _ => ?_))))
    rw [h1]
    simp [h2]
  · rename_i h1 h2
    rw [h1]
    simp [h2]
end Go.Proofs.Ytfocnmkbnccilaa
