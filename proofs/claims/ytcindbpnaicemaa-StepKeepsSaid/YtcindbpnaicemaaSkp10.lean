/-
  Parts of the proof: C14, C15, C16, C17, C18.
-/
import Derived.Test.YtcindbpnaicemaaSkp9
set_option linter.unusedVariables false
set_option linter.unusedSimpArgs false
namespace Go.Proofs.Ytcindbpnaicemaa
section
open Go.RowKit
set_option maxRecDepth 100000 in
set_option maxHeartbeats 4000000 in
theorem constsC_A (m : Mod) (l : List Inst) (hf : Fit m) (hl : l.length ≤ 100) : ARel Try.prog 18 [.agg (eMod m), sInsts l] fun R => (∃ o : List Int, R = own 2 1 (o.map fun n => [eI n]) ∧ o.length ≤ 10000) := by
  refine arel_of_code mixedT Try.func18 rfl (by decide) Try.ntmps18 Try.results18 rfl ?_
  obtain ⟨hg, hm, -⟩ := id hf.sizes
  (repeat' (first | simp (maxSteps := 5000000) (implicitDefEqProofs := false) only [ruA, ruB, aEv, ASt.get, aget, ASt.put, aBox, aBuildSlice, aCells, oneC, oneCL, aLit, Value.cells, envOf, ↓reduceIte, Nat.reduceLT, Nat.reduceEqDiff, Nat.reduceAdd, Nat.reduceMul, eq_self, aBuildSlice1, frzs, ownIds, tyR_23] | (with_reducible refine aIf_split (fun _ => ?_) (fun _ => ?_)) | (with_reducible refine aSel_split (fun _ => ?_) (fun _ => ?_)) | (with_reducible refine aGd_split (fun _ => ?_) (fun _ => ?_))))
  refine ⟨rfl, callPO (numbers_A l (by omega)) fun o0 ho0 => ?_⟩
  (repeat' (first | simp (maxSteps := 5000000) (implicitDefEqProofs := false) only [ruA, ruB, aEv, ASt.get, aget, ASt.put, aAppend, aDst, aSrc, appTab, ↓reduceIte, Nat.reduceLT, Nat.reduceEqDiff, Nat.reduceAdd, eq_self, tyR_23] | (with_reducible refine aIf_split (fun _ => ?_) (fun _ => ?_)) | (with_reducible refine aSel_split (fun _ => ?_) (fun _ => ?_)) | (with_reducible refine aGd_split (fun _ => ?_) (fun _ => ?_))))
  refine ⟨by omega, ?_⟩
  refine aLoop_of (fun st => ∃ (k : Nat) (o : List Int), k ≤ m.guards.length ∧ o.length ≤ 200 + 200 * k ∧ st = ⟨46, [(2, .op 0 0 0), (5, .osl 1), (6, eI (k : Int))], [(0, some (.box 32 (eMod m))), (1, some (.row 2 1 (o.map fun n => [eI n])))], 2⟩) (fun st => m.guards.length - slotN st 6) ⟨_, (weak_ren1 [0, 3] ⟨(by decide), (by (first | ((simp only [envInR, tabInR, envLt, tabLt, AObj.lt, AV.lt, AV.ltL, AV.ren, AV.renL, AObj.ren, List.getD_cons_zero, List.getD_cons_succ, List.length_cons, List.length_nil, ruW, ASt.get, aget, ↓reduceIte, reduceCtorEq, Nat.reduceLT, Nat.reduceEqDiff, Nat.reduceAdd, eq_self]) <;> (repeat' apply And.intro) <;> first | (rw [wrapK (by omega)]; done) | (simp; done) | omega) | fail))⟩), 0, o0, Nat.zero_le _, by omega, rfl⟩ ?_
  rintro _ ⟨k, o, hk, ho, rfl⟩
  by_cases hlt : k < m.guards.length
  · have hc := hf.guards _ (List.getElem_mem hlt)
    (repeat' (first | simp (maxSteps := 5000000) (implicitDefEqProofs := false) only [ruA, ruB, aEv, aTake, aLoad, aField, aIndex, aLen, aBin, bin2, ASt.get, aget, ASt.put, ↓reduceIte, reduceCtorEq, Nat.reduceLT, Nat.reduceEqDiff, Nat.reduceAdd, Nat.reduceLeDiff, eq_self, ne_eq, aLenM, false_or, tyF_32_6, tyA_27, tyS_27, tyE_27, tyF_52_2, tyA_50, tyS_50, row_at, hlt] | (with_reducible refine aIf_split (fun _ => ?_) (fun _ => ?_)) | (with_reducible refine aSel_split (fun _ => ?_) (fun _ => ?_)) | (with_reducible refine aGd_split (fun _ => ?_) (fun _ => ?_))))
    refine callPO (numbers_A m.guards[k].cond (by omega)) fun o1 ho1 => ?_
    (repeat' (first | simp (maxSteps := 5000000) (implicitDefEqProofs := false) only [ruA, ruB, aEv, aBin, bin2, ASt.get, aget, ASt.put, aAppend, aDst, aSrc, appTab, ↓reduceIte, Nat.reduceLT, Nat.reduceEqDiff, Nat.reduceAdd, eq_self, tyR_23] | (with_reducible refine aIf_split (fun _ => ?_) (fun _ => ?_)) | (with_reducible refine aSel_split (fun _ => ?_) (fun _ => ?_)) | (with_reducible refine aGd_split (fun _ => ?_) (fun _ => ?_))))
    refine ⟨by omega, roundI (weak_ren1 [0, 3] ⟨(by decide), (by (first | ((simp only [envInR, tabInR, envLt, tabLt, AObj.lt, AV.lt, AV.ltL, AV.ren, AV.renL, AObj.ren, List.getD_cons_zero, List.getD_cons_succ, List.length_cons, List.length_nil, ruW, ASt.get, aget, ↓reduceIte, reduceCtorEq, Nat.reduceLT, Nat.reduceEqDiff, Nat.reduceAdd, eq_self, map_app]) <;> (repeat' apply And.intro) <;> first | (rw [wrapK (by omega)]; done) | (simp; done) | omega) | fail))⟩) ⟨k + 1, o ++ o1, by omega, by simp; omega, rfl⟩ (by simp only [slotN, ruW, ASt.get, aget, ↓reduceIte, Nat.reduceLT, Nat.reduceEqDiff, eq_self]; omega)⟩
  · obtain rfl : k = m.guards.length := by omega
    (repeat' (first | simp (maxSteps := 5000000) (implicitDefEqProofs := false) only [ruA, ruB, aEv, aTake, aLoad, aField, aLen, aBin, bin2, ASt.get, aget, ASt.put, ↓reduceIte, reduceCtorEq, Nat.reduceLT, Nat.reduceEqDiff, Nat.reduceAdd, Nat.reduceLeDiff, eq_self, ne_eq, aLenM, false_or, tyF_32_6, tyA_27, tyS_27, tyE_27, hlt] | (with_reducible refine aIf_split (fun _ => ?_) (fun _ => ?_)) | (with_reducible refine aSel_split (fun _ => ?_) (fun _ => ?_)) | (with_reducible refine aGd_split (fun _ => ?_) (fun _ => ?_))))
    refine aLoop_of (fun st => ∃ (k : Nat) (o : List Int), k ≤ m.miles.length ∧ o.length ≤ 4000 + 200 * k ∧ st = ⟨46, [(2, .op 0 0 0), (5, .osl 1), (7, eI (k : Int))], [(0, some (.box 32 (eMod m))), (1, some (.row 2 1 (o.map fun n => [eI n])))], 2⟩) (fun st => m.miles.length - slotN st 7) ⟨_, (weak_ren1 [0, 1] ⟨(by decide), (by (first | ((simp only [envInR, tabInR, envLt, tabLt, AObj.lt, AV.lt, AV.ltL, AV.ren, AV.renL, AObj.ren, List.getD_cons_zero, List.getD_cons_succ, List.length_cons, List.length_nil, ruW, ASt.get, aget, ↓reduceIte, Nat.reduceLT, Nat.reduceEqDiff, Nat.reduceAdd, eq_self]) <;> (repeat' apply And.intro) <;> first | (rw [wrapK (by omega)]; done) | (simp; done) | omega) | fail))⟩), 0, o, Nat.zero_le _, by omega, rfl⟩ ?_
    rintro _ ⟨k, o, hk, ho, rfl⟩
    by_cases hlt : k < m.miles.length
    · have hc := hf.miles _ (List.getElem_mem hlt)
      (repeat' (first | simp (maxSteps := 5000000) (implicitDefEqProofs := false) only [ruA, ruB, aEv, aTake, aLoad, aField, aIndex, aLen, aBin, bin2, ASt.get, aget, ASt.put, ↓reduceIte, reduceCtorEq, Nat.reduceLT, Nat.reduceEqDiff, Nat.reduceAdd, Nat.reduceLeDiff, eq_self, ne_eq, aLenM, false_or, tyA_50, tyS_50, tyF_32_7, tyA_28, tyS_28, tyE_28, tyF_54_3, row_at, hlt] | (with_reducible refine aIf_split (fun _ => ?_) (fun _ => ?_)) | (with_reducible refine aSel_split (fun _ => ?_) (fun _ => ?_)) | (with_reducible refine aGd_split (fun _ => ?_) (fun _ => ?_))))
      refine callPO (numbers_A m.miles[k].cond (by omega)) fun o1 ho1 => ?_
      (repeat' (first | simp (maxSteps := 5000000) (implicitDefEqProofs := false) only [ruA, ruB, aEv, aBin, bin2, ASt.get, aget, ASt.put, aAppend, aDst, aSrc, appTab, ↓reduceIte, Nat.reduceLT, Nat.reduceEqDiff, Nat.reduceAdd, eq_self, tyR_23] | (with_reducible refine aIf_split (fun _ => ?_) (fun _ => ?_)) | (with_reducible refine aSel_split (fun _ => ?_) (fun _ => ?_)) | (with_reducible refine aGd_split (fun _ => ?_) (fun _ => ?_))))
      refine ⟨by omega, roundI (weak_ren1 [0, 3] ⟨(by decide), (by (first | ((simp only [envInR, tabInR, envLt, tabLt, AObj.lt, AV.lt, AV.ltL, AV.ren, AV.renL, AObj.ren, List.getD_cons_zero, List.getD_cons_succ, List.length_cons, List.length_nil, ruW, ASt.get, aget, ↓reduceIte, reduceCtorEq, Nat.reduceLT, Nat.reduceEqDiff, Nat.reduceAdd, eq_self, map_app]) <;> (repeat' apply And.intro) <;> first | (rw [wrapK (by omega)]; done) | (simp; done) | omega) | fail))⟩) ⟨k + 1, o ++ o1, by omega, by simp; omega, rfl⟩ (by simp only [slotN, ASt.get, aget, ↓reduceIte, Nat.reduceLT, Nat.reduceEqDiff, eq_self]; omega)⟩
    · obtain rfl : k = m.miles.length := by omega
      (repeat' (first | simp (maxSteps := 5000000) (implicitDefEqProofs := false) only [ruA, ruB, aEv, aTake, aLoad, aField, aLen, aBin, bin2, ASt.get, aget, ASt.put, ↓reduceIte, reduceCtorEq, Nat.reduceLT, Nat.reduceEqDiff, Nat.reduceAdd, Nat.reduceLeDiff, eq_self, ne_eq, aLenM, false_or, tyF_32_7, tyA_28, tyS_28, tyE_28, hlt] | (with_reducible refine aIf_split (fun _ => ?_) (fun _ => ?_)) | (with_reducible refine aSel_split (fun _ => ?_) (fun _ => ?_)) | (with_reducible refine aGd_split (fun _ => ?_) (fun _ => ?_))))
      refine callPO (sorted_A o (by omega)) fun o' ho' => ?_
      (repeat' (first | simp (maxSteps := 5000000) (implicitDefEqProofs := false) only [ruA, aEv, ASt.get, aget, ASt.put, aResL, aOne, ↓reduceIte, Nat.reduceLT, Nat.reduceAdd, eq_self] | (with_reducible refine aIf_split (fun _ => ?_) (fun _ => ?_)) | (with_reducible refine aSel_split (fun _ => ?_) (fun _ => ?_)) | (with_reducible refine aGd_split (fun _ => ?_) (fun _ => ?_))))
      exact retO (by simp [ATab.get_cons]) ⟨o', rfl, by omega⟩
end
section
open Go.RowKit
set_option maxRecDepth 100000 in
theorem up_A (l : List Int) (i : Int) (s : Nat) (hs : s ≤ 1000000) (hl : l.length ≤ 1000000) : ARel Try.prog 52 [sI l, eI i, eI (s : Int)] fun R => ∃ v, R = val (.int .i64 v) := by
  refine arel_of_code mixedT Try.func52 rfl (by decide) Try.ntmps52 Try.results52 rfl ?_
  (repeat' (first | simp (maxSteps := 5000000) (implicitDefEqProofs := false) only [ruA, ruB, aEv, ASt.put, envOf, Nat.reduceAdd] | (with_reducible refine aIf_split (fun _ => ?_) (fun _ => ?_)) | (with_reducible refine aSel_split (fun _ => ?_) (fun _ => ?_)) | (with_reducible refine aGd_split (fun _ => ?_) (fun _ => ?_))))
  refine aLoop_of (fun st => ∃ (k : Nat) (v : Int), k ≤ s ∧ st = ⟨34, [(0, sI l), (1, eI v), (2, eI (s : Int)), (7, eI (k : Int))], [], 0⟩) (fun st => s - slotN st 7) ⟨_, (weak_cut1 (by (first | ((simp only [envIn, tabIn, envLt, tabLt, AV.lt, ruW, ASt.get, aget, ↓reduceIte, reduceCtorEq, Nat.reduceLT, Nat.reduceEqDiff, eq_self]) <;> (repeat' apply And.intro) <;> first | (rw [wrapK (by omega)]; done) | (simp; done) | omega) | fail))), 0, i, Nat.zero_le _, rfl⟩ ?_
  rintro _ ⟨k, v, hk, rfl⟩
  by_cases hlt : k < s
  · (repeat' (first | simp (maxSteps := 5000000) (implicitDefEqProofs := false) only [ruA, ruB, aEv, aTake, aLoad, aIndex, aLen, aBin, bin2, ASt.get, aget, ASt.put, aResL, aOne, ↓reduceIte, reduceCtorEq, Nat.reduceLT, Nat.reduceEqDiff, eq_self, ne_eq, aLenM, false_or, tyE_33, tyA_3, tyS_3, hlt] | (with_reducible refine aIf_split (fun _ => ?_) (fun _ => ?_)) | (with_reducible refine aSel_split (fun _ => ?_) (fun _ => ?_)) | (with_reducible refine aGd_split (fun _ => ?_) (fun _ => ?_))))
    · exact retV ⟨_, rfl⟩
    · exact retV ⟨_, rfl⟩
    · rename_i h1 h2
      obtain ⟨j, rfl⟩ : ∃ j : Nat, v = (j : Int) := ⟨v.toNat, by simp at h1; omega⟩
      have hj : j < l.length := by simp at h2; omega
      refine ⟨Int.natCast_nonneg _, by omega, ?_⟩
      (repeat' (first | simp (maxSteps := 5000000) (implicitDefEqProofs := false) only [ruB, row_at, hj] | (with_reducible refine aIf_split (fun _ => ?_) (fun _ => ?_)) | (with_reducible refine aSel_split (fun _ => ?_) (fun _ => ?_)) | (with_reducible refine aGd_split (fun _ => ?_) (fun _ => ?_))))
      exact roundI (weak_cut1 (by (first | ((simp only [envIn, tabIn, envLt, tabLt, AV.lt, ruW, ASt.get, aget, ↓reduceIte, reduceCtorEq, Nat.reduceLT, Nat.reduceEqDiff, eq_self]) <;> (repeat' apply And.intro) <;> first | (rw [wrapK (by omega)]; done) | (simp; done) | omega) | fail))) ⟨k + 1, l[j], by omega, rfl⟩ (by simp only [slotN, ruW, ASt.get, aget, ↓reduceIte, Nat.reduceLT, Nat.reduceEqDiff, eq_self]; omega)
  · (repeat' (first | simp (maxSteps := 5000000) (implicitDefEqProofs := false) only [ruA, ruB, aEv, aLen, aBin, bin2, ASt.get, aget, ASt.put, aResL, aOne, ↓reduceIte, reduceCtorEq, Nat.reduceLT, Nat.reduceEqDiff, eq_self, ne_eq, aLenM, false_or, tyE_33, hlt] | (with_reducible refine aIf_split (fun _ => ?_) (fun _ => ?_)) | (with_reducible refine aSel_split (fun _ => ?_) (fun _ => ?_)) | (with_reducible refine aGd_split (fun _ => ?_) (fun _ => ?_))))
    all_goals exact retV ⟨_, rfl⟩
set_option maxRecDepth 100000 in
theorem is_A (l : List Int) (a i : Int) (hl : l.length ≤ 1000000) : ARel Try.prog 36 [sI l, eI a, eI i] fun R => ∃ b, R = val (.bool b) ∧ True := by
  refine arel_of_code mixedT Try.func36 rfl (by decide) Try.ntmps36 Try.results36 rfl ?_
  (repeat' (first | simp (maxSteps := 5000000) (implicitDefEqProofs := false) only [ruA, ruB, aEv, ASt.put, envOf, Nat.reduceAdd] | (with_reducible refine aIf_split (fun _ => ?_) (fun _ => ?_)) | (with_reducible refine aSel_split (fun _ => ?_) (fun _ => ?_)) | (with_reducible refine aGd_split (fun _ => ?_) (fun _ => ?_))))
  refine aLoop_of (fun st => ∃ (k : Nat), k ≤ l.length ∧ st = ⟨24, [(0, sI l), (1, eI a), (2, eI i), (7, eI ((k + 1 : Nat) : Int))], [], 0⟩) (fun st => l.length + 1 - slotN st 7) ⟨_, (weak_cut1 (by (first | ((simp only [envIn, tabIn, envLt, tabLt, AV.lt, ruW, ASt.get, aget, ↓reduceIte, reduceCtorEq, Nat.reduceLT, Nat.reduceEqDiff, Nat.reduceAdd, eq_self]) <;> (repeat' apply And.intro) <;> first | (rw [wrapK (by omega)]; done) | (simp; done) | omega) | fail))), 0, Nat.zero_le _, rfl⟩ ?_
  rintro _ ⟨k, hk, rfl⟩
  by_cases hlt : k < l.length
  · (repeat' (first | simp (maxSteps := 5000000) (implicitDefEqProofs := false) only [ruA, ruB, aEv, aLen, aBin, bin2, ASt.get, aget, ASt.put, aResL, aOne, ↓reduceIte, reduceCtorEq, Nat.reduceLT, Nat.reduceEqDiff, eq_self, ne_eq, aLenM, false_or, tyE_33] | (with_reducible refine aIf_split (fun _ => ?_) (fun _ => ?_)) | (with_reducible refine aSel_split (fun _ => ?_) (fun _ => ?_)) | (with_reducible refine aGd_split (fun _ => ?_) (fun _ => ?_))))
    · refine callPI (up_A l i (k + 1) (by omega) hl) fun v => ?_
      (repeat' (first | simp (maxSteps := 5000000) (implicitDefEqProofs := false) only [ruA, ruB, aEv, aBin, bin2, ASt.get, aget, ASt.put, aResL, aOne, ↓reduceIte, Nat.reduceLT, Nat.reduceEqDiff, eq_self] | (with_reducible refine aIf_split (fun _ => ?_) (fun _ => ?_)) | (with_reducible refine aSel_split (fun _ => ?_) (fun _ => ?_)) | (with_reducible refine aGd_split (fun _ => ?_) (fun _ => ?_))))
      · exact retV ⟨_, rfl⟩
      · exact roundI (weak_cut1 (by (first | ((simp only [envIn, tabIn, envLt, tabLt, AV.lt, ruW, ASt.get, aget, ↓reduceIte, reduceCtorEq, Nat.reduceLT, Nat.reduceEqDiff, eq_self]) <;> (repeat' apply And.intro) <;> first | (rw [wrapK (by omega)]; done) | (simp; done) | omega) | fail))) ⟨k + 1, by omega, rfl⟩ (by simp only [slotN, ruW, ASt.get, aget, ↓reduceIte, Nat.reduceLT, Nat.reduceEqDiff, eq_self]; omega)
    · exact roundI (weak_cut1 (by (first | ((simp only [envIn, tabIn, envLt, tabLt, AV.lt, ruW, ASt.get, aget, ↓reduceIte, reduceCtorEq, Nat.reduceLT, Nat.reduceEqDiff, eq_self]) <;> (repeat' apply And.intro) <;> first | (rw [wrapK (by omega)]; done) | (simp; done) | omega) | fail))) ⟨k + 1, by omega, rfl⟩ (by simp only [slotN, ruW, ASt.get, aget, ↓reduceIte, Nat.reduceLT, Nat.reduceEqDiff, eq_self]; omega)
    · exact retV ⟨_, rfl⟩
  · have hlt2 : ¬ k + 1 ≤ l.length := by omega
    (repeat' (first | simp (maxSteps := 5000000) (implicitDefEqProofs := false) only [ruA, ruB, aEv, aLen, aBin, bin2, ASt.get, aget, ASt.put, aResL, aOne, ↓reduceIte, reduceCtorEq, Nat.reduceLT, Nat.reduceEqDiff, eq_self, ne_eq, aLenM, false_or, tyE_33, hlt2] | (with_reducible refine aIf_split (fun _ => ?_) (fun _ => ?_)) | (with_reducible refine aSel_split (fun _ => ?_) (fun _ => ?_)) | (with_reducible refine aGd_split (fun _ => ?_) (fun _ => ?_))))
    exact retV ⟨_, rfl⟩
theorem count_A (m : Mod) (hf : Fit m) : ADet Try.prog 39 [.agg (eMod m)] (val (.int .i64 ((m.guards.length + m.miles.length : Nat) : Int))) := by
  refine adet_of_code mixedT Try.func39 rfl (by decide) Try.ntmps39 Try.results39 rfl (val_ok _) ?_
  obtain ⟨hg, hm, -⟩ := id hf.sizes
  (repeat' (first | simp (maxSteps := 5000000) (implicitDefEqProofs := false) only [ruA, ruB, aEv, aTake, aLoad, aField, aLen, aBin, bin2, ASt.get, aget, ASt.put, aBox, aCells, oneC, oneCL, envOf, aResL, aOne, ↓reduceIte, reduceCtorEq, Nat.reduceLT, Nat.reduceEqDiff, Nat.reduceAdd, Nat.reduceLeDiff, eq_self, ne_eq, aLenM, false_or, tyF_32_6, tyA_27, tyS_27, tyE_27, tyF_32_7, tyA_28, tyS_28, tyE_28] | (with_reducible refine aIf_split (fun _ => ?_) (fun _ => ?_)) | (with_reducible refine aSel_split (fun _ => ?_) (fun _ => ?_)) | (with_reducible refine aGd_split (fun _ => ?_) (fun _ => ?_))))
  rw [wrap_in (by omega) (by omega)]
  simp
theorem sub_at (a b : Nat) : IntKind.i64.wrap ((a + b : Nat) - (a : Int)) = (b : Int) ∨ b > 9223372036854775807 := by
  rcases Nat.lt_or_ge 9223372036854775807 b with h | h
  · exact .inr h
  · left
    rw [wrap_in (by omega) (by omega)]
    omega
def atMC (m : Mod) (i : Nat) : Bool × Int := if i < m.guards.length then (false, (i : Int)) else (true, ((i - m.guards.length : Nat) : Int))
def stageN (m : Mod) (i : Nat) : Int := if h : i < m.guards.length then m.guards[i].stage else (m.miles[i - m.guards.length]?.map (·.stage)).getD 0
def condNC (m : Mod) (i : Nat) : List Inst := if h : i < m.guards.length then m.guards[i].cond else (m.miles[i - m.guards.length]?.map (·.cond)).getD []
theorem atC_A (m : Mod) (i : Nat) (hf : Fit m) (hi : i < m.guards.length + m.miles.length) : ADet Try.prog 41 [.agg (eMod m), eI (i : Int)] ⟨.agg (eBI (atMC m i)), [], 0⟩ := by
  refine adet_of_code mixedT Try.func41 rfl (by decide) Try.ntmps41 Try.results41 rfl (⟨fun id o h => (by cases h), ⟨trivial, trivial, trivial⟩⟩) ?_
  obtain ⟨hg, hm, -⟩ := id hf.sizes
  by_cases hlt : i < m.guards.length
  · have e : atMC m i = (false, (i : Int)) := by simp [atMC, hlt]
    rw [e]
    (repeat' (first | simp (maxSteps := 5000000) (implicitDefEqProofs := false) only [ruA, ruB, aEv, aTake, aLoad, aField, aLen, aBin, bin2, ASt.get, aget, ASt.put, aStore, aBox, aBuild, aFill, oneParts, aCells, oneC, oneCL, Value.cells, Value.oneCell', envOf, aResL, aOne, ↓reduceIte, reduceCtorEq, Nat.reduceLT, Nat.reduceEqDiff, Nat.reduceAdd, Nat.reduceLeDiff, eq_self, ne_eq, aLenM, false_or, tyA_88, tyS_88, tyZ_88, tyF_32_6, tyA_27, tyS_27, tyE_27, tyB_88, hlt] | (with_reducible refine aIf_split (fun _ => ?_) (fun _ => ?_)) | (with_reducible refine aSel_split (fun _ => ?_) (fun _ => ?_)) | (with_reducible refine aGd_split (fun _ => ?_) (fun _ => ?_))))
    exact gives_tree (by simp [AV.ren, AV.renL])
  · obtain ⟨j, rfl⟩ : ∃ j, i = m.guards.length + j := ⟨i - m.guards.length, by omega⟩
    have e : atMC m (m.guards.length + j) = (true, (j : Int)) := by simp [atMC]
    have ew : IntKind.i64.wrap (((m.guards.length + j : Nat) : Int) - (m.guards.length : Int)) = (j : Int) := (sub_at _ _).resolve_right (by omega)
    rw [e]
    (repeat' (first | simp (maxSteps := 5000000) (implicitDefEqProofs := false) only [ruA, ruB, aEv, aTake, aLoad, aField, aLen, aBin, bin2, ASt.get, aget, ASt.put, aStore, aBox, aBuild, aFill, oneParts, aCells, oneC, oneCL, Value.cells, Value.oneCell', envOf, aResL, aOne, ↓reduceIte, reduceCtorEq, Nat.reduceLT, Nat.reduceEqDiff, Nat.reduceAdd, Nat.reduceLeDiff, eq_self, ne_eq, aLenM, false_or, tyA_88, tyS_88, tyZ_88, tyF_32_6, tyA_27, tyS_27, tyE_27, tyB_88, hlt, ew] | (with_reducible refine aIf_split (fun _ => ?_) (fun _ => ?_)) | (with_reducible refine aSel_split (fun _ => ?_) (fun _ => ?_)) | (with_reducible refine aGd_split (fun _ => ?_) (fun _ => ?_))))
    exact gives_tree (by simp [AV.ren, AV.renL])
theorem stage_A (m : Mod) (i : Nat) (hf : Fit m) (hi : i < m.guards.length + m.miles.length) : ADet Try.prog 55 [.agg (eMod m), eI (i : Int)] (val (.int .i64 (stageN m i))) := by
  refine adet_of_code mixedT Try.func55 rfl (by decide) Try.ntmps55 Try.results55 rfl (val_ok _) ?_
  obtain ⟨hg, hm, -⟩ := id hf.sizes
  by_cases hlt : i < m.guards.length
  · have e : stageN m i = m.guards[i].stage := by simp [stageN, hlt]
    rw [e]
    (repeat' (first | simp (maxSteps := 5000000) (implicitDefEqProofs := false) only [ruA, ruB, aEv, aTake, aLoad, aField, aIndex, aLen, aBin, bin2, ASt.get, aget, ASt.put, aBox, aCells, oneC, oneCL, envOf, aResL, aOne, ↓reduceIte, reduceCtorEq, Nat.reduceLT, Nat.reduceEqDiff, Nat.reduceAdd, Nat.reduceLeDiff, eq_self, ne_eq, aLenM, tyF_32_6, tyA_27, tyS_27, tyE_27, tyF_52_0, tyA_3, tyS_3, hlt, row_at] | (with_reducible refine aIf_split (fun _ => ?_) (fun _ => ?_)) | (with_reducible refine aSel_split (fun _ => ?_) (fun _ => ?_)) | (with_reducible refine aGd_split (fun _ => ?_) (fun _ => ?_))))
  · obtain ⟨j, rfl⟩ : ∃ j, i = m.guards.length + j := ⟨i - m.guards.length, by omega⟩
    have hj : j < m.miles.length := by omega
    have e : stageN m (m.guards.length + j) = m.miles[j].stage := by simp only [stageN]; rw [dif_neg (by omega)]; simp [hj]
    have ew : IntKind.i64.wrap (((m.guards.length + j : Nat) : Int) - (m.guards.length : Int)) = (j : Int) := (sub_at _ _).resolve_right (by omega)
    rw [e]
    (repeat' (first | simp (maxSteps := 5000000) (implicitDefEqProofs := false) only [ruA, ruB, aEv, aTake, aLoad, aField, aIndex, aLen, aBin, bin2, ASt.get, aget, ASt.put, aBox, aCells, oneC, oneCL, envOf, aResL, aOne, ↓reduceIte, reduceCtorEq, Nat.reduceLT, Nat.reduceEqDiff, Nat.reduceAdd, Nat.reduceLeDiff, eq_self, ne_eq, aLenM, tyF_32_6, tyA_27, tyS_27, tyE_27, tyA_3, tyS_3, tyF_32_7, tyA_28, tyS_28, tyE_28, tyF_54_1, hlt, ew, hj, row_at] | (with_reducible refine aIf_split (fun _ => ?_) (fun _ => ?_)) | (with_reducible refine aSel_split (fun _ => ?_) (fun _ => ?_)) | (with_reducible refine aGd_split (fun _ => ?_) (fun _ => ?_))))
theorem cond_A (m : Mod) (i : Nat) (hf : Fit m) (hi : i < m.guards.length + m.miles.length) : ADet Try.prog 53 [.agg (eMod m), eI (i : Int)] ⟨sInsts (condNC m i), [], 0⟩ := by
  refine adet_of_code mixedT Try.func53 rfl (by decide) Try.ntmps53 Try.results53 rfl (⟨fun id o h => (by cases h), trivial⟩) ?_
  obtain ⟨hg, hm, -⟩ := id hf.sizes
  by_cases hlt : i < m.guards.length
  · have e : condNC m i = m.guards[i].cond := by simp [condNC, hlt]
    rw [e]
    (repeat' (first | simp (maxSteps := 5000000) (implicitDefEqProofs := false) only [ruA, ruB, aEv, aTake, aLoad, aField, aIndex, aLen, aBin, bin2, ASt.get, aget, ASt.put, aBox, aCells, oneC, oneCL, envOf, aResL, aOne, ↓reduceIte, reduceCtorEq, Nat.reduceLT, Nat.reduceEqDiff, Nat.reduceAdd, Nat.reduceLeDiff, eq_self, ne_eq, aLenM, false_or, tyF_32_6, tyA_27, tyS_27, tyE_27, tyF_52_2, tyA_50, tyS_50, hlt, row_at] | (with_reducible refine aIf_split (fun _ => ?_) (fun _ => ?_)) | (with_reducible refine aSel_split (fun _ => ?_) (fun _ => ?_)) | (with_reducible refine aGd_split (fun _ => ?_) (fun _ => ?_))))
    exact gives_tree (by simp [AV.ren])
  · obtain ⟨j, rfl⟩ : ∃ j, i = m.guards.length + j := ⟨i - m.guards.length, by omega⟩
    have hj : j < m.miles.length := by omega
    have e : condNC m (m.guards.length + j) = m.miles[j].cond := by simp only [condNC]; rw [dif_neg (by omega)]; simp [hj]
    have ew : IntKind.i64.wrap (((m.guards.length + j : Nat) : Int) - (m.guards.length : Int)) = (j : Int) := (sub_at _ _).resolve_right (by omega)
    rw [e]
    (repeat' (first | simp (maxSteps := 5000000) (implicitDefEqProofs := false) only [ruA, ruB, aEv, aTake, aLoad, aField, aIndex, aLen, aBin, bin2, ASt.get, aget, ASt.put, aBox, aCells, oneC, oneCL, envOf, aResL, aOne, ↓reduceIte, reduceCtorEq, Nat.reduceLT, Nat.reduceEqDiff, Nat.reduceAdd, Nat.reduceLeDiff, eq_self, ne_eq, aLenM, false_or, tyF_32_6, tyA_27, tyS_27, tyE_27, tyA_50, tyS_50, tyF_32_7, tyA_28, tyS_28, tyE_28, tyF_54_3, hlt, ew, hj, row_at] | (with_reducible refine aIf_split (fun _ => ?_) (fun _ => ?_)) | (with_reducible refine aSel_split (fun _ => ?_) (fun _ => ?_)) | (with_reducible refine aGd_split (fun _ => ?_) (fun _ => ?_))))
    exact gives_tree (by simp [AV.ren])
theorem condNC_len (m : Mod) (hf : Fit m) (i : Nat) : (condNC m i).length ≤ 80 := by
  unfold condNC
  split
  · exact hf.guards _ (List.getElem_mem _)
  · rcases Nat.lt_or_ge (i - m.guards.length) m.miles.length with h | h
    · simp [List.getElem?_eq_getElem h]
      exact hf.miles _ (List.getElem_mem _)
    · simp [List.getElem?_eq_none h]
end
section
open Go.RowKit
set_option maxRecDepth 100000 in
set_option maxHeartbeats 4000000 in
theorem by_A (m : Mod) (x : Inst) (y : Nat) (hf : Fit m) (hy : y < m.guards.length + m.miles.length) : ARel Try.prog 54 [.agg (eMod m), .agg (eInst x), eI (y : Int)] fun R => ∃ b, R = val (.bool b) ∧ True := by
  refine arel_of_code mixedT Try.func54 rfl (by decide) Try.ntmps54 Try.results54 rfl ?_
  obtain ⟨hg, hm, hst, -⟩ := id hf.sizes
  obtain ⟨op, la, ln, ra, rn, n, u⟩ := x
  have hpl : (pars m).length ≤ 1000000 := by simp [pars]; omega
  (repeat' (first | simp (maxSteps := 5000000) (implicitDefEqProofs := false) only [ruA, ruB, aEv, aTake, aLoad, aField, aLen, aBin, bin2, aUn, un1, ASt.get, aget, ASt.put, aBox, aCells, oneC, oneCL, Value.oneCell', envOf, aResL, aOne, ↓reduceIte, reduceCtorEq, Nat.reduceLT, Nat.reduceEqDiff, Nat.reduceAdd, Nat.reduceLeDiff, eq_self, ne_eq, aLenM, false_or, tyF_32_6, tyA_27, tyS_27, tyE_27, tyF_99_0, tyA_3, tyS_3, tyF_99_3] | (with_reducible refine aIf_split (fun _ => ?_) (fun _ => ?_)) | (with_reducible refine aSel_split (fun _ => ?_) (fun _ => ?_)) | (with_reducible refine aGd_split (fun _ => ?_) (fun _ => ?_))))
  · refine aDraw_held [] [0, 1, 3, 4] (.exec 2 (.take 5 (.take 6 (.take 7 (.take 8 (.take 9 (.take 10 (.take 12 (.take 13 (.take 15 (.take 16 (.exec 11 (.exec 14 (.exec 17 (.take 18 (.take 19 (.exec 20 .done))))))))))))))))) (by kernel_rfl) (by simp) ?_
    (repeat' (first | simp (maxSteps := 5000000) (implicitDefEqProofs := false) only [ruA, ruB, aEv, aTake, aLoad, aField, ASt.get, aget, ASt.put, ↓reduceIte, reduceCtorEq, Nat.reduceLT, Nat.reduceEqDiff, Nat.reduceAdd, Nat.reduceLeDiff, eq_self, aTakes, aFrom, tyA_3, tyS_3, tyA_32, tyS_32, tyF_99_3] | (with_reducible refine aIf_split (fun _ => ?_) (fun _ => ?_)) | (with_reducible refine aSel_split (fun _ => ?_) (fun _ => ?_)) | (with_reducible refine aGd_split (fun _ => ?_) (fun _ => ?_))))
    refine callV (stage_A m y hf hy) ?_
    (repeat' (first | simp (maxSteps := 5000000) (implicitDefEqProofs := false) only [ruA, ruB, aEv, aTake, aLoad, aField, aBin, bin2, aUn, un1, ASt.get, aget, ASt.put, aResL, aOne, ↓reduceIte, reduceCtorEq, Nat.reduceLT, Nat.reduceEqDiff, Nat.reduceAdd, Nat.reduceLeDiff, eq_self, aTakeE, aElder, tyA_3, tyS_3, tyA_32, tyS_32, tyF_99_3] | (with_reducible refine aIf_split (fun _ => ?_) (fun _ => ?_)) | (with_reducible refine aSel_split (fun _ => ?_) (fun _ => ?_)) | (with_reducible refine aGd_split (fun _ => ?_) (fun _ => ?_))))
    · exact retV ⟨_, rfl⟩
    · refine callO (refParents_A m (by omega)) (.inr ints_plain) ?_
      (repeat' (first | simp (maxSteps := 5000000) (implicitDefEqProofs := false) only [ruA, ruB, aEv, ASt.get, aget, ASt.put, ↓reduceIte, Nat.reduceLT, Nat.reduceEqDiff, Nat.reduceAdd, eq_self] | (with_reducible refine aIf_split (fun _ => ?_) (fun _ => ?_)) | (with_reducible refine aSel_split (fun _ => ?_) (fun _ => ?_)) | (with_reducible refine aGd_split (fun _ => ?_) (fun _ => ?_))))
      refine callV (stage_A m y hf hy) ?_
      (repeat' (first | simp (maxSteps := 5000000) (implicitDefEqProofs := false) only [ruA, ruB, aEv, ASt.get, aget, ASt.put, ↓reduceIte, Nat.reduceLT, Nat.reduceEqDiff, eq_self] | (with_reducible refine aIf_split (fun _ => ?_) (fun _ => ?_)) | (with_reducible refine aSel_split (fun _ => ?_) (fun _ => ?_)) | (with_reducible refine aGd_split (fun _ => ?_) (fun _ => ?_))))
      refine callPB (is_A (pars m) (stageN m y) n hpl) fun b _ => ?_
      (repeat' (first | simp (maxSteps := 5000000) (implicitDefEqProofs := false) only [ruA, ruB, aEv, ASt.get, aget, ASt.put, aResL, aOne, ↓reduceIte, Nat.reduceLT, Nat.reduceEqDiff, eq_self, aTakeE] | (with_reducible refine aIf_split (fun _ => ?_) (fun _ => ?_)) | (with_reducible refine aSel_split (fun _ => ?_) (fun _ => ?_)) | (with_reducible refine aGd_split (fun _ => ?_) (fun _ => ?_))))
      all_goals exact retV ⟨_, rfl⟩
    · exact retV ⟨_, rfl⟩
  · exact retV ⟨_, rfl⟩
  all_goals
    by_cases hn : 0 ≤ n ∧ n < (m.miles.length : Int)
    · obtain ⟨j, rfl⟩ : ∃ j : Nat, n = (j : Int) := ⟨n.toNat, by omega⟩
      have hj : j < m.miles.length := by omega
      refine aDraw_quiet (by kernel_rfl) ?_
      (repeat' (first | simp (maxSteps := 5000000) (implicitDefEqProofs := false) only [ruA, ruB, aEv, aTake, aLoad, aField, aIndex, aLen, aBin, bin2, ASt.get, aget, ASt.put, aResL, aOne, ↓reduceIte, reduceCtorEq, Nat.reduceLT, Nat.reduceEqDiff, Nat.reduceAdd, Nat.reduceLeDiff, eq_self, ne_eq, dref, dref1, tyK_3, tyF_99_0, tyA_3, tyS_3, tyA_32, tyS_32, tyF_99_3, tyF_32_7, tyA_28, tyS_28, tyE_28, tyF_54_1, row_at, hj] | (with_reducible refine aIf_split (fun _ => ?_) (fun _ => ?_)) | (with_reducible refine aSel_split (fun _ => ?_) (fun _ => ?_)) | (with_reducible refine aGd_split (fun _ => ?_) (fun _ => ?_))))
      all_goals first | with_reducible exact retV ⟨_, rfl⟩ | skip
      refine callD (stage_A m y hf hy) ?_
      (repeat' (first | simp (maxSteps := 5000000) (implicitDefEqProofs := false) only [↓reduceIte, eq_self] | (with_reducible refine aIf_split (fun _ => ?_) (fun _ => ?_)) | (with_reducible refine aSel_split (fun _ => ?_) (fun _ => ?_)) | (with_reducible refine aGd_split (fun _ => ?_) (fun _ => ?_))))
      exact retV ⟨_, rfl⟩
    · have hn2 : decide (0 ≤ n) = false ∨ decide (n < (m.miles.length : Int)) = false := by
        rcases Int.lt_or_le n 0 with h | h
        · left; simp; omega
        · right; simp; omega
      rcases hn2 with hn2 | hn2
      · refine aDraw_quiet (by kernel_rfl) ?_
        (repeat' (first | simp (maxSteps := 5000000) (implicitDefEqProofs := false) only [ruA, ruB, aEv, aTake, aLoad, aField, aBin, bin2, ASt.get, aget, ASt.put, aResL, aOne, ↓reduceIte, reduceCtorEq, Nat.reduceLT, Nat.reduceEqDiff, Nat.reduceAdd, Nat.reduceLeDiff, eq_self, tyF_99_0, tyA_3, tyS_3, tyF_99_3, hn2] | (with_reducible refine aIf_split (fun _ => ?_) (fun _ => ?_)) | (with_reducible refine aSel_split (fun _ => ?_) (fun _ => ?_)) | (with_reducible refine aGd_split (fun _ => ?_) (fun _ => ?_))))
        all_goals exact retV ⟨_, rfl⟩
      · refine aDraw_quiet (by kernel_rfl) ?_
        (repeat' (first | simp (maxSteps := 5000000) (implicitDefEqProofs := false) only [ruA, ruB, aEv, aTake, aLoad, aField, aLen, aBin, bin2, ASt.get, aget, ASt.put, aResL, aOne, ↓reduceIte, reduceCtorEq, Nat.reduceLT, Nat.reduceEqDiff, Nat.reduceAdd, Nat.reduceLeDiff, eq_self, ne_eq, tyF_99_0, tyA_3, tyS_3, tyF_99_3, tyF_32_7, tyA_28, tyS_28, tyE_28, hn2] | (with_reducible refine aIf_split (fun _ => ?_) (fun _ => ?_)) | (with_reducible refine aSel_split (fun _ => ?_) (fun _ => ?_)) | (with_reducible refine aGd_split (fun _ => ?_) (fun _ => ?_))))
        all_goals exact retV ⟨_, rfl⟩
set_option maxRecDepth 100000 in
set_option maxHeartbeats 4000000 in
theorem waits_A (m : Mod) (x y : Nat) (hf : Fit m) (hx : x < m.guards.length + m.miles.length) (hy : y < m.guards.length + m.miles.length) : ARel Try.prog 40 [.agg (eMod m), eI (x : Int), eI (y : Int)] fun R => ∃ b, R = val (.bool b) ∧ True := by
  refine arel_of_code mixedT Try.func40 rfl (by decide) Try.ntmps40 Try.results40 rfl ?_
  obtain ⟨hg, hm, -⟩ := id hf.sizes
  (repeat' (first | simp (maxSteps := 5000000) (implicitDefEqProofs := false) only [ruA, ruB, aEv, aTake, aLoad, ASt.get, aget, ASt.put, aBox, aCells, oneC, oneCL, envOf, ↓reduceIte, Nat.reduceLT, Nat.reduceEqDiff, Nat.reduceAdd, eq_self, tyA_32, tyS_32] | (with_reducible refine aIf_split (fun _ => ?_) (fun _ => ?_)) | (with_reducible refine aSel_split (fun _ => ?_) (fun _ => ?_)) | (with_reducible refine aGd_split (fun _ => ?_) (fun _ => ?_))))
  refine callT (cond_A m x hf hx) (.inl (by simp [roL, roA, treeL, treeC])) ?_
  have hcl := condNC_len m hf x
  generalize condNC m x = l at hcl
  (repeat' (first | simp (maxSteps := 5000000) (implicitDefEqProofs := false) only [ruA, aEv, ASt.get, aget, ASt.put, ↓reduceIte, Nat.reduceLT, eq_self, AV.shift] | (with_reducible refine aIf_split (fun _ => ?_) (fun _ => ?_)) | (with_reducible refine aSel_split (fun _ => ?_) (fun _ => ?_)) | (with_reducible refine aGd_split (fun _ => ?_) (fun _ => ?_))))
  refine aLoop_of (fun st => ∃ (k : Nat), k ≤ l.length ∧ st = ⟨65, [(1, eI (x : Int)), (2, eI (y : Int)), (3, .op 0 0 0), (7, sInsts l), (8, eI (k : Int))], [(0, some (.box 32 (eMod m)))], 1⟩) (fun st => l.length - slotN st 8) ⟨_, (weak_cut1 (by (first | ((simp only [envIn, tabIn, envLt, tabLt, AObj.lt, AV.lt, AV.ltL, ruW, ASt.get, aget, ↓reduceIte, Nat.reduceLT, Nat.reduceEqDiff, eq_self]) <;> (repeat' apply And.intro) <;> first | (rw [wrapK (by omega)]; done) | (simp; done) | omega) | fail))), 0, Nat.zero_le _, rfl⟩ ?_
  rintro _ ⟨k, hk, rfl⟩
  by_cases hlt : k < l.length
  · (repeat' (first | simp (maxSteps := 5000000) (implicitDefEqProofs := false) only [ruA, ruB, aEv, aLen, aBin, bin2, ASt.get, aget, ASt.put, ↓reduceIte, Nat.reduceLT, Nat.reduceEqDiff, eq_self, ne_eq, aLenM, false_or, tyE_50, hlt] | (with_reducible refine aIf_split (fun _ => ?_) (fun _ => ?_)) | (with_reducible refine aSel_split (fun _ => ?_) (fun _ => ?_)) | (with_reducible refine aGd_split (fun _ => ?_) (fun _ => ?_))))
    refine aDraw_held [] [0, 1, 2, 3, 4, 5] (.exec 6 .done) (by kernel_rfl) (by simp) ?_
    (repeat' (first | simp (maxSteps := 5000000) (implicitDefEqProofs := false) only [ruA, ruB, aEv, aTake, aLoad, aIndex, ASt.get, aget, ASt.put, ↓reduceIte, Nat.reduceLT, Nat.reduceEqDiff, Nat.reduceAdd, eq_self, aTakes, aFrom, tyA_32, tyS_32, tyE_50, tyA_99, tyS_99, row_at, hlt] | (with_reducible refine aIf_split (fun _ => ?_) (fun _ => ?_)) | (with_reducible refine aSel_split (fun _ => ?_) (fun _ => ?_)) | (with_reducible refine aGd_split (fun _ => ?_) (fun _ => ?_))))
    refine callPB (by_A m l[k] y hf hy) fun b _ => ?_
    (repeat' (first | simp (maxSteps := 5000000) (implicitDefEqProofs := false) only [ruA, ruB, aEv, aBin, bin2, ASt.get, aget, ASt.put, aResL, aOne, ↓reduceIte, Nat.reduceLT, Nat.reduceEqDiff, eq_self] | (with_reducible refine aIf_split (fun _ => ?_) (fun _ => ?_)) | (with_reducible refine aSel_split (fun _ => ?_) (fun _ => ?_)) | (with_reducible refine aGd_split (fun _ => ?_) (fun _ => ?_))))
    · exact retV ⟨_, rfl⟩
    · exact roundI (weak_cut1 (by (first | ((simp only [envIn, tabIn, envLt, tabLt, AObj.lt, AV.lt, AV.ltL, ruW, ASt.get, aget, ↓reduceIte, Nat.reduceLT, Nat.reduceEqDiff, eq_self]) <;> (repeat' apply And.intro) <;> first | (rw [wrapK (by omega)]; done) | (simp; done) | omega) | fail))) ⟨k + 1, by omega, rfl⟩ (by simp only [slotN, ruW, ASt.get, aget, ↓reduceIte, Nat.reduceLT, Nat.reduceEqDiff, eq_self]; omega)
  · (repeat' (first | simp (maxSteps := 5000000) (implicitDefEqProofs := false) only [ruA, ruB, aEv, aTake, aLoad, aField, aLen, aBin, bin2, ASt.get, aget, ASt.put, aResL, aOne, ↓reduceIte, reduceCtorEq, Nat.reduceLT, Nat.reduceEqDiff, Nat.reduceAdd, Nat.reduceLeDiff, eq_self, ne_eq, aLenM, false_or, tyA_32, tyS_32, tyE_50, tyF_32_6, tyA_27, tyS_27, tyE_27, hlt] | (with_reducible refine aIf_split (fun _ => ?_) (fun _ => ?_)) | (with_reducible refine aSel_split (fun _ => ?_) (fun _ => ?_)) | (with_reducible refine aGd_split (fun _ => ?_) (fun _ => ?_))))
    · exact retV ⟨_, rfl⟩
    refine callV (stage_A m x hf hx) ?_
    generalize stageN m x = sx
    (repeat' (first | simp (maxSteps := 5000000) (implicitDefEqProofs := false) only [ruA, ruB, aEv, aTake, aLoad, aField, aLen, aBin, bin2, ASt.get, aget, ASt.put, ↓reduceIte, reduceCtorEq, Nat.reduceLT, Nat.reduceEqDiff, Nat.reduceAdd, Nat.reduceLeDiff, eq_self, ne_eq, aLenM, false_or, tyA_32, tyS_32, tyF_32_6, tyA_27, tyS_27, tyE_27] | (with_reducible refine aIf_split (fun _ => ?_) (fun _ => ?_)) | (with_reducible refine aSel_split (fun _ => ?_) (fun _ => ?_)) | (with_reducible refine aGd_split (fun _ => ?_) (fun _ => ?_))))
    · refine callV (stage_A m y hf hy) ?_
      (repeat' (first | simp (maxSteps := 5000000) (implicitDefEqProofs := false) only [ruA, aEv, aBin, bin2, ASt.get, aget, ASt.put, aResL, aOne, ↓reduceIte, Nat.reduceLT, Nat.reduceEqDiff, eq_self] | (with_reducible refine aIf_split (fun _ => ?_) (fun _ => ?_)) | (with_reducible refine aSel_split (fun _ => ?_) (fun _ => ?_)) | (with_reducible refine aGd_split (fun _ => ?_) (fun _ => ?_))))
      exact retV ⟨_, rfl⟩
    · by_cases hn : 0 ≤ sx ∧ sx < (m.stages.length : Int)
      · obtain ⟨j, rfl⟩ : ∃ j : Nat, sx = (j : Int) := ⟨sx.toNat, by omega⟩
        have hj : j < m.stages.length := by omega
        refine aDraw_quiet (by kernel_rfl) ?_
        (repeat' (first | simp (maxSteps := 5000000) (implicitDefEqProofs := false) only [ruA, ruB, aEv, aTake, aLoad, aField, aIndex, aLen, aBin, bin2, ASt.get, aget, ASt.put, aResL, aOne, ↓reduceIte, reduceCtorEq, Nat.reduceLT, Nat.reduceEqDiff, Nat.reduceAdd, Nat.reduceLeDiff, eq_self, ne_eq, dref, dref1, tyA_32, tyS_32, tyK_3, tyF_32_4, tyA_25, tyS_25, tyE_25, tyF_67_1, tyA_3, tyS_3, row_at, hj] | (with_reducible refine aIf_split (fun _ => ?_) (fun _ => ?_)) | (with_reducible refine aSel_split (fun _ => ?_) (fun _ => ?_)) | (with_reducible refine aGd_split (fun _ => ?_) (fun _ => ?_))))
        refine callD (stage_A m y hf hy) ?_
        (repeat' (first | simp (maxSteps := 5000000) (implicitDefEqProofs := false) only [↓reduceIte, eq_self] | (with_reducible refine aIf_split (fun _ => ?_) (fun _ => ?_)) | (with_reducible refine aSel_split (fun _ => ?_) (fun _ => ?_)) | (with_reducible refine aGd_split (fun _ => ?_) (fun _ => ?_))))
        exact retV ⟨_, rfl⟩
      · have hn2 : decide (0 ≤ sx) = false ∨ decide (sx < (m.stages.length : Int)) = false := by
          rcases Int.lt_or_le sx 0 with h | h
          · left; simp; omega
          · right; simp; omega
        rcases hn2 with hn2 | hn2
        · refine aDraw_quiet (by kernel_rfl) ?_
          (repeat' (first | simp (maxSteps := 5000000) (implicitDefEqProofs := false) only [ruA, ruB, aEv, aBin, bin2, ASt.get, aget, ASt.put, aResL, aOne, ↓reduceIte, Nat.reduceLT, Nat.reduceEqDiff, eq_self, hn2] | (with_reducible refine aIf_split (fun _ => ?_) (fun _ => ?_)) | (with_reducible refine aSel_split (fun _ => ?_) (fun _ => ?_)) | (with_reducible refine aGd_split (fun _ => ?_) (fun _ => ?_))))
          all_goals exact retV ⟨_, rfl⟩
        · refine aDraw_quiet (by kernel_rfl) ?_
          (repeat' (first | simp (maxSteps := 5000000) (implicitDefEqProofs := false) only [ruA, ruB, aEv, aTake, aLoad, aField, aLen, aBin, bin2, ASt.get, aget, ASt.put, aResL, aOne, ↓reduceIte, reduceCtorEq, Nat.reduceLT, Nat.reduceEqDiff, Nat.reduceAdd, Nat.reduceLeDiff, eq_self, ne_eq, tyF_32_4, tyA_25, tyS_25, tyE_25, hn2] | (with_reducible refine aIf_split (fun _ => ?_) (fun _ => ?_)) | (with_reducible refine aSel_split (fun _ => ?_) (fun _ => ?_)) | (with_reducible refine aGd_split (fun _ => ?_) (fun _ => ?_))))
          all_goals exact retV ⟨_, rfl⟩
end
section
open Go.RowKit
def rowsLen (st : ASt) (id : Nat) : Nat := match st.tab.get id with | some (.row _ _ rows) => rows.length | _ => 0
set_option maxRecDepth 100000 in
set_option maxHeartbeats 4000000 in
theorem order_A (m : Mod) (hf : Fit m) : ARel Try.prog 19 [.agg (eMod m)] fun R => (∃ o : List (Bool × Int), R = ⟨.tup [.osl 0, eI 0], [(0, some (.row 88 2 (o.map eBI)))], 1⟩ ∧ o.length ≤ 24) ∨ R = ⟨.tup [.c (.slice none 0 0), eI 10], [], 0⟩ := by
  refine arel_of_code mixedT Try.func19 rfl (by decide) Try.ntmps19 Try.results19 rfl ?_
  obtain ⟨hg, hm, -⟩ := id hf.sizes
  (repeat' (first | simp (maxSteps := 5000000) (implicitDefEqProofs := false) only [ruA, ruB, aEv, aTake, aLoad, ASt.get, aget, ASt.put, aBox, aCells, oneC, oneCL, envOf, ↓reduceIte, Nat.reduceLT, Nat.reduceEqDiff, Nat.reduceAdd, eq_self, tyA_32, tyS_32] | (with_reducible refine aIf_split (fun _ => ?_) (fun _ => ?_)) | (with_reducible refine aSel_split (fun _ => ?_) (fun _ => ?_)) | (with_reducible refine aGd_split (fun _ => ?_) (fun _ => ?_))))
  refine callV (count_A m hf) ?_
  obtain ⟨n, hn⟩ : ∃ n, n = m.guards.length + m.miles.length := ⟨_, rfl⟩
  rw [← hn]
  (repeat' (first | simp (maxSteps := 5000000) (implicitDefEqProofs := false) only [ruA, ruB, aEv, ASt.get, aget, ASt.put, aMake, aCells, oneC, oneCL, Value.cells, Value.oneCell', ↓reduceIte, Nat.reduceLT, Nat.reduceAdd, eq_self, mkO, tyR_85, tyZ_4, tyQ_85] | (with_reducible refine aIf_split (fun _ => ?_) (fun _ => ?_)) | (with_reducible refine aSel_split (fun _ => ?_) (fun _ => ?_)) | (with_reducible refine aGd_split (fun _ => ?_) (fun _ => ?_))))
  refine ⟨by omega, ?_⟩
  refine aLoop_of (fun st => ∃ (bs : List Bool) (o : List (Bool × Int)), bs.length = n ∧ o.length ≤ n ∧ st = ⟨66, [(1, .op 0 0 0), (4, eI (n : Int)), (5, .osl 1), (6, .osl 2)], [(0, some (.box 32 (eMod m))), (1, some (.row 4 1 (bs.map fun b => [eB b]))), (2, some (.row 88 2 (o.map eBI)))], 3⟩) (fun st => n - rowsLen st 2) ⟨_, ((weak_nil 6 88 2 (by simp only [ASt.get, aget, ↓reduceIte, Nat.reduceLT, eq_self])).trans (weak_ren1 [0, 1, 2] ⟨(by decide), (by (first | ((simp only [envInR, tabInR, envLt, tabLt, AObj.lt, AV.lt, AV.ltL, AV.ren, AV.renL, AObj.ren, List.getD_cons_zero, List.getD_cons_succ, List.length_cons, List.length_nil, ruW, ASt.get, aget, ↓reduceIte, reduceCtorEq, Nat.reduceLT, Nat.reduceEqDiff, Nat.reduceAdd, eq_self, List.map_replicate]) <;> (repeat' apply And.intro) <;> first | (rw [wrapK (by omega)]; done) | (simp; done) | omega) | fail))⟩)), List.replicate n false, [], by simp, Nat.zero_le _, rfl⟩ ?_
  rintro _ ⟨bs, o, hbs, ho, rfl⟩
  by_cases hlt : o.length < n
  · (repeat' (first | simp (maxSteps := 5000000) (implicitDefEqProofs := false) only [ruA, ruB, aEv, aLen, aBin, bin2, ASt.get, aget, ASt.put, ↓reduceIte, Nat.reduceLT, Nat.reduceEqDiff, eq_self, ne_eq, aLenM, false_or, tyE_30, hlt] | (with_reducible refine aIf_split (fun _ => ?_) (fun _ => ?_)) | (with_reducible refine aSel_split (fun _ => ?_) (fun _ => ?_)) | (with_reducible refine aGd_split (fun _ => ?_) (fun _ => ?_))))
    refine aLoop_of (fun st => ∃ (i : Nat) (v : Int), i ≤ n ∧ (v < 0 ∨ (0 ≤ v ∧ v < (n : Int))) ∧ st = ⟨66, [(1, .op 0 0 0), (4, eI (n : Int)), (5, .osl 1), (6, .osl 2), (7, eI v), (8, eI (i : Int))], [(0, some (.box 32 (eMod m))), (1, some (.row 4 1 (bs.map fun b => [eB b]))), (2, some (.row 88 2 (o.map eBI)))], 3⟩) (fun st => n - slotN st 8) ⟨_, (weak_cut1 (by (first | ((simp only [envIn, tabIn, envLt, tabLt, AObj.lt, AV.lt, AV.ltL, ruW, ASt.get, aget, ↓reduceIte, Nat.reduceLT, Nat.reduceEqDiff, eq_self]) <;> (repeat' apply And.intro) <;> first | (rw [wrapK (by omega)]; done) | (simp; done) | omega) | fail))), 0, -1, Nat.zero_le _, .inl (by omega), rfl⟩ ?_
    rintro _ ⟨i, v, hi, hv, rfl⟩
    have fin : aLoop = aLoop := rfl
    by_cases hv0 : v < 0
    · by_cases hlt2 : i < n
      · have hib : i < bs.length := by omega
        (repeat' (first | simp (maxSteps := 5000000) (implicitDefEqProofs := false) only [ruA, ruB, aEv, aTake, aLoad, aIndex, aBin, bin2, aUn, un1, ASt.get, aget, ASt.put, ↓reduceIte, reduceCtorEq, Nat.reduceLT, Nat.reduceEqDiff, eq_self, tyE_85, tyA_4, tyS_4, row_at, hlt2, hv0, hib] | (with_reducible refine aIf_split (fun _ => ?_) (fun _ => ?_)) | (with_reducible refine aSel_split (fun _ => ?_) (fun _ => ?_)) | (with_reducible refine aGd_split (fun _ => ?_) (fun _ => ?_))))
        refine aLoop_of (fun st => ∃ (k : Nat) (f : Bool), k ≤ n ∧ st = ⟨66, [(1, .op 0 0 0), (4, eI (n : Int)), (5, .osl 1), (6, .osl 2), (7, eI v), (8, eI (i : Int)), (9, eB f), (10, eI (k : Int))], [(0, some (.box 32 (eMod m))), (1, some (.row 4 1 (bs.map fun b => [eB b]))), (2, some (.row 88 2 (o.map eBI)))], 3⟩) (fun st => n - slotN st 10) ⟨_, (weak_cut1 (by (first | ((simp only [envIn, tabIn, envLt, tabLt, AObj.lt, AV.lt, AV.ltL, ruW, ASt.get, aget, ↓reduceIte, Nat.reduceLT, Nat.reduceEqDiff, eq_self]) <;> (repeat' apply And.intro) <;> first | (rw [wrapK (by omega)]; done) | (simp; done) | omega) | fail))), 0, !bs[i], Nat.zero_le _, rfl⟩ ?_
        rintro _ ⟨k, f, hk, rfl⟩
        by_cases hlt3 : k < n
        · have hkb : k < bs.length := by omega
          (repeat' (first | simp (maxSteps := 5000000) (implicitDefEqProofs := false) only [ruA, ruB, aEv, aTake, aLoad, aIndex, aBin, bin2, ASt.get, aget, ASt.put, ↓reduceIte, reduceCtorEq, Nat.reduceLT, Nat.reduceEqDiff, Nat.reduceAdd, eq_self, tyA_32, tyS_32, tyE_85, tyA_4, tyS_4, row_at, hlt3, hkb] | (with_reducible refine aIf_split (fun _ => ?_) (fun _ => ?_)) | (with_reducible refine aSel_split (fun _ => ?_) (fun _ => ?_)) | (with_reducible refine aGd_split (fun _ => ?_) (fun _ => ?_))))
          · exact roundI (weak_cut1 (by (first | ((simp only [envIn, tabIn, envLt, tabLt, AObj.lt, AV.lt, AV.ltL, ruW, ASt.get, aget, ↓reduceIte, Nat.reduceLT, Nat.reduceEqDiff, eq_self]) <;> (repeat' apply And.intro) <;> first | (rw [wrapK (by omega)]; done) | (simp; done) | omega) | fail))) ⟨k + 1, true, by omega, rfl⟩ (by simp only [slotN, ruW, ASt.get, aget, ↓reduceIte, Nat.reduceLT, Nat.reduceEqDiff, eq_self]; omega)
          · refine callPB (waits_A m i k hf (by omega) (by omega)) fun b _ => ?_
            (repeat' (first | simp (maxSteps := 5000000) (implicitDefEqProofs := false) only [ruA, ruB, aEv, aBin, bin2, aUn, un1, ASt.get, aget, ASt.put, ↓reduceIte, Nat.reduceLT, Nat.reduceEqDiff, eq_self] | (with_reducible refine aIf_split (fun _ => ?_) (fun _ => ?_)) | (with_reducible refine aSel_split (fun _ => ?_) (fun _ => ?_)) | (with_reducible refine aGd_split (fun _ => ?_) (fun _ => ?_))))
            exact roundI (weak_cut1 (by (first | ((simp only [envIn, tabIn, envLt, tabLt, AObj.lt, AV.lt, AV.ltL, ruW, ASt.get, aget, ↓reduceIte, Nat.reduceLT, Nat.reduceEqDiff, eq_self]) <;> (repeat' apply And.intro) <;> first | (rw [wrapK (by omega)]; done) | (simp; done) | omega) | fail))) ⟨k + 1, !b, by omega, rfl⟩ (by simp only [slotN, ruW, ASt.get, aget, ↓reduceIte, Nat.reduceLT, Nat.reduceEqDiff, eq_self]; omega)
          · exact roundI (weak_cut1 (by (first | ((simp only [envIn, tabIn, envLt, tabLt, AObj.lt, AV.lt, AV.ltL, ruW, ASt.get, aget, ↓reduceIte, Nat.reduceLT, Nat.reduceEqDiff, eq_self]) <;> (repeat' apply And.intro) <;> first | (rw [wrapK (by omega)]; done) | (simp; done) | omega) | fail))) ⟨k + 1, false, by omega, rfl⟩ (by simp only [slotN, ruW, ASt.get, aget, ↓reduceIte, Nat.reduceLT, Nat.reduceEqDiff, eq_self]; omega)
        · (repeat' (first | simp (maxSteps := 5000000) (implicitDefEqProofs := false) only [ruA, ruB, aEv, aBin, bin2, ASt.get, aget, ASt.put, ↓reduceIte, Nat.reduceLT, Nat.reduceEqDiff, eq_self, hlt3] | (with_reducible refine aIf_split (fun _ => ?_) (fun _ => ?_)) | (with_reducible refine aSel_split (fun _ => ?_) (fun _ => ?_)) | (with_reducible refine aGd_split (fun _ => ?_) (fun _ => ?_))))
          · exact roundI (weak_cut1 (by (first | ((simp only [envIn, tabIn, envLt, tabLt, AObj.lt, AV.lt, AV.ltL, ruW, ASt.get, aget, ↓reduceIte, Nat.reduceLT, Nat.reduceEqDiff, eq_self]) <;> (repeat' apply And.intro) <;> first | (rw [wrapK (by omega)]; done) | (simp; done) | omega) | fail))) ⟨i + 1, (i : Int), by omega, .inr (by omega), rfl⟩ (by simp only [slotN, ruW, ASt.get, aget, ↓reduceIte, Nat.reduceLT, Nat.reduceEqDiff, eq_self]; omega)
          · exact roundI (weak_cut1 (by (first | ((simp only [envIn, tabIn, envLt, tabLt, AObj.lt, AV.lt, AV.ltL, ruW, ASt.get, aget, ↓reduceIte, Nat.reduceLT, Nat.reduceEqDiff, eq_self]) <;> (repeat' apply And.intro) <;> first | (rw [wrapK (by omega)]; done) | (simp; done) | omega) | fail))) ⟨i + 1, v, by omega, hv, rfl⟩ (by simp only [slotN, ruW, ASt.get, aget, ↓reduceIte, Nat.reduceLT, Nat.reduceEqDiff, eq_self]; omega)
      · (repeat' (first | simp (maxSteps := 5000000) (implicitDefEqProofs := false) only [ruA, ruB, aEv, aBin, bin2, ASt.get, aget, ASt.put, aResL, aOne, ↓reduceIte, Nat.reduceLT, Nat.reduceEqDiff, eq_self, hlt2, hv0] | (with_reducible refine aIf_split (fun _ => ?_) (fun _ => ?_)) | (with_reducible refine aSel_split (fun _ => ?_) (fun _ => ?_)) | (with_reducible refine aGd_split (fun _ => ?_) (fun _ => ?_))))
        exact ⟨_, .inr rfl, ⟨fun id o h => (by cases h), trivial, trivial, trivial⟩, gives_tree (by simp [AV.ren, AV.renL])⟩
    · obtain ⟨j, rfl⟩ : ∃ j : Nat, v = (j : Int) := ⟨v.toNat, by omega⟩
      have hjn : j < n := by omega
      have hjb : j < bs.length := by omega
      have hj0 : decide ((j : Int) < 0) = false := by simp
      have et : (o ++ [atMC m j]).map eBI = o.map eBI ++ [eBI (atMC m j)] := by rw [List.map_append]; rfl
      have hset : (bs.map fun b => [eB b]).set j [eB true] = (bs.set j true).map fun b => [eB b] := by rw [List.map_set]
      by_cases hi2 : i < n
      · (repeat' (first | simp (maxSteps := 5000000) (implicitDefEqProofs := false) only [ruA, ruB, aEv, aTake, aLoad, aIndex, aBin, bin2, ASt.get, aget, ASt.put, aStore, aCells, oneC, oneCL, treeC, treeL, Value.cells, Value.oneCell', ↓reduceIte, reduceCtorEq, Nat.reduceLT, Nat.reduceEqDiff, Nat.reduceAdd, eq_self, tyA_32, tyS_32, tyE_85, tyS_4, hi2, hj0, row_at, hjb] | (with_reducible refine aIf_split (fun _ => ?_) (fun _ => ?_)) | (with_reducible refine aSel_split (fun _ => ?_) (fun _ => ?_)) | (with_reducible refine aGd_split (fun _ => ?_) (fun _ => ?_))))
        refine callT (atC_A m j hf (by omega)) (.inl (by simp [roL, roA, treeL, treeC])) ?_
        (repeat' (first | simp (maxSteps := 5000000) (implicitDefEqProofs := false) only [ruA, ruB, aEv, ASt.get, aget, ASt.put, aAppend, aBuildSlice, aCells, oneC, oneCL, treeML, treeM_c, aLit, aDst, aSrc, appTab, Value.cells, Value.oneCell', ↓reduceIte, Nat.reduceLT, Nat.reduceEqDiff, Nat.reduceAdd, Nat.reduceMul, Nat.reduceLeDiff, eq_self, aBuildSlice1, frzs, ownIds, AV.shift, AV.shiftL, tyR_30] | (with_reducible refine aIf_split (fun _ => ?_) (fun _ => ?_)) | (with_reducible refine aSel_split (fun _ => ?_) (fun _ => ?_)) | (with_reducible refine aGd_split (fun _ => ?_) (fun _ => ?_))))
        refine ⟨rfl, by omega, roundI (weak_ren1 [0, 1, 4] ⟨(by decide), (by (first | ((simp only [envInR, tabInR, envLt, tabLt, AObj.lt, AV.lt, AV.ltL, AV.ren, AV.renL, AObj.ren, List.getD_cons_zero, List.getD_cons_succ, List.length_cons, List.length_nil, ruW, ASt.get, aget, ↓reduceIte, reduceCtorEq, Nat.reduceLT, Nat.reduceEqDiff, Nat.reduceAdd, eq_self, hset, et]) <;> (repeat' apply And.intro) <;> first | (rw [wrapK (by omega)]; done) | (simp; done) | omega) | fail))⟩) ⟨bs.set j true, o ++ [atMC m j], by simp [hbs], by simp; omega, rfl⟩ (by simp [rowsLen, ATab.get_cons]; omega)⟩
      · (repeat' (first | simp (maxSteps := 5000000) (implicitDefEqProofs := false) only [ruA, ruB, aEv, aTake, aLoad, aIndex, aBin, bin2, ASt.get, aget, ASt.put, aStore, aCells, oneC, oneCL, treeC, treeL, Value.cells, Value.oneCell', ↓reduceIte, reduceCtorEq, Nat.reduceLT, Nat.reduceEqDiff, Nat.reduceAdd, eq_self, tyA_32, tyS_32, tyE_85, tyS_4, hi2, hj0, row_at, hjb] | (with_reducible refine aIf_split (fun _ => ?_) (fun _ => ?_)) | (with_reducible refine aSel_split (fun _ => ?_) (fun _ => ?_)) | (with_reducible refine aGd_split (fun _ => ?_) (fun _ => ?_))))
        refine callT (atC_A m j hf (by omega)) (.inl (by simp [roL, roA, treeL, treeC])) ?_
        (repeat' (first | simp (maxSteps := 5000000) (implicitDefEqProofs := false) only [ruA, ruB, aEv, ASt.get, aget, ASt.put, aAppend, aBuildSlice, aCells, oneC, oneCL, treeML, treeM_c, aLit, aDst, aSrc, appTab, Value.cells, Value.oneCell', ↓reduceIte, Nat.reduceLT, Nat.reduceEqDiff, Nat.reduceAdd, Nat.reduceMul, Nat.reduceLeDiff, eq_self, aBuildSlice1, frzs, ownIds, AV.shift, AV.shiftL, tyR_30] | (with_reducible refine aIf_split (fun _ => ?_) (fun _ => ?_)) | (with_reducible refine aSel_split (fun _ => ?_) (fun _ => ?_)) | (with_reducible refine aGd_split (fun _ => ?_) (fun _ => ?_))))
        refine ⟨rfl, by omega, roundI (weak_ren1 [0, 1, 4] ⟨(by decide), (by (first | ((simp only [envInR, tabInR, envLt, tabLt, AObj.lt, AV.lt, AV.ltL, AV.ren, AV.renL, AObj.ren, List.getD_cons_zero, List.getD_cons_succ, List.length_cons, List.length_nil, ruW, ASt.get, aget, ↓reduceIte, reduceCtorEq, Nat.reduceLT, Nat.reduceEqDiff, Nat.reduceAdd, eq_self, hset, et]) <;> (repeat' apply And.intro) <;> first | (rw [wrapK (by omega)]; done) | (simp; done) | omega) | fail))⟩) ⟨bs.set j true, o ++ [atMC m j], by simp [hbs], by simp; omega, rfl⟩ (by simp [rowsLen, ATab.get_cons]; omega)⟩
  · (repeat' (first | simp (maxSteps := 5000000) (implicitDefEqProofs := false) only [ruA, ruB, aEv, aLen, aBin, bin2, ASt.get, aget, ASt.put, aResL, aOne, ↓reduceIte, Nat.reduceLT, Nat.reduceEqDiff, eq_self, ne_eq, aLenM, false_or, tyE_30, hlt] | (with_reducible refine aIf_split (fun _ => ?_) (fun _ => ?_)) | (with_reducible refine aSel_split (fun _ => ?_) (fun _ => ?_)) | (with_reducible refine aGd_split (fun _ => ?_) (fun _ => ?_))))
    refine ⟨_, .inl ⟨o, rfl, by omega⟩, ⟨fun id o h => ?_, Nat.zero_lt_one, trivial, trivial⟩, ⟨[2], by simp, rfl, ⟨Nat.zero_lt_one, ⟨_, _, _, rfl⟩, by simp [ATab.get_cons]⟩, trivial⟩⟩
    simp only [ATab.get_cons] at h
    split at h
    · rename_i e
      cases h
      subst e
      exact ⟨Nat.zero_lt_one, trivial⟩
    · cases h
end
section
open Go.RowKit
set_option maxRecDepth 100000 in
theorem same12_A (a b : List (Bool × Int)) (ha : a.length ≤ 1000000) (hb : b.length ≤ 1000000) : ARel Try.prog 20 [.sl 2 (a.map eBI), .sl 2 (b.map eBI)] fun R => ∃ b, R = val (.bool b) ∧ True := by
  refine arel_of_code mixedT Try.func20 rfl (by decide) Try.ntmps20 Try.results20 rfl ?_
  (repeat' (first | simp (maxSteps := 5000000) (implicitDefEqProofs := false) only [ruA, ruB, aEv, aLen, aBin, bin2, ASt.get, aget, ASt.put, envOf, aResL, aOne, ↓reduceIte, reduceCtorEq, Nat.reduceLT, Nat.reduceEqDiff, eq_self, ne_eq, aLenM, false_or, tyE_30] | (with_reducible refine aIf_split (fun _ => ?_) (fun _ => ?_)) | (with_reducible refine aSel_split (fun _ => ?_) (fun _ => ?_)) | (with_reducible refine aGd_split (fun _ => ?_) (fun _ => ?_))))
  · exact retV ⟨_, rfl⟩
  · rename_i hl
    have hl : a.length = b.length := by simp at hl; omega
    refine aLoop_of (fun st => ∃ (k : Nat), k ≤ a.length ∧ st = ⟨26, [(0, .sl 2 (a.map eBI)), (1, .sl 2 (b.map eBI)), (5, eI (k : Int))], [], 0⟩) (fun st => a.length - slotN st 5) ⟨_, (weak_cut1 (by (first | ((simp only [envIn, tabIn, envLt, tabLt, AV.lt, ruW, ASt.get, aget, ↓reduceIte, reduceCtorEq, Nat.reduceLT, Nat.reduceEqDiff, eq_self]) <;> (repeat' apply And.intro) <;> first | (rw [wrapK (by omega)]; done) | (simp; done) | omega) | fail))), 0, Nat.zero_le _, rfl⟩ ?_
    rintro _ ⟨k, hk, rfl⟩
    by_cases hlt : k < a.length
    · have hlt2 : k < b.length := by omega
      (repeat' (first | simp (maxSteps := 5000000) (implicitDefEqProofs := false) only [ruA, ruB, aEv, aLen, aBin, bin2, ASt.get, aget, ASt.put, ↓reduceIte, reduceCtorEq, Nat.reduceLT, Nat.reduceEqDiff, eq_self, ne_eq, aLenM, false_or, tyE_30, hlt] | (with_reducible refine aIf_split (fun _ => ?_) (fun _ => ?_)) | (with_reducible refine aSel_split (fun _ => ?_) (fun _ => ?_)) | (with_reducible refine aGd_split (fun _ => ?_) (fun _ => ?_))))
      refine aDraw_quiet (by kernel_rfl) ?_
      (repeat' (first | simp (maxSteps := 5000000) (implicitDefEqProofs := false) only [ruA, ruB, aEv, aTake, aLoad, aIndex, aBin, ASt.get, aget, ASt.put, allC, aBinS, ↓reduceIte, reduceCtorEq, Nat.reduceLT, Nat.reduceEqDiff, Nat.reduceAdd, eq_self, tyE_30, tyA_88, tyS_88, row_at, hlt, hlt2] | (with_reducible refine aIf_split (fun _ => ?_) (fun _ => ?_)) | (with_reducible refine aSel_split (fun _ => ?_) (fun _ => ?_)) | (with_reducible refine aGd_split (fun _ => ?_) (fun _ => ?_))))
      refine ⟨_, sentryBin .neq (.inr rfl) a[k] b[k], ?_⟩
      (repeat' (first | simp (maxSteps := 5000000) (implicitDefEqProofs := false) only [ruA, ruB, aEv, aBin, bin2, ASt.get, aget, ASt.put, aResL, aOne, ↓reduceIte, reduceCtorEq, Nat.reduceLT, Nat.reduceEqDiff, eq_self] | (with_reducible refine aIf_split (fun _ => ?_) (fun _ => ?_)) | (with_reducible refine aSel_split (fun _ => ?_) (fun _ => ?_)) | (with_reducible refine aGd_split (fun _ => ?_) (fun _ => ?_))))
      all_goals first | with_reducible exact retV ⟨_, rfl⟩ | exact roundI (weak_cut1 (by (first | ((simp only [envIn, tabIn, envLt, tabLt, AV.lt, ruW, ASt.get, aget, ↓reduceIte, reduceCtorEq, Nat.reduceLT, Nat.reduceEqDiff, eq_self]) <;> (repeat' apply And.intro) <;> first | (rw [wrapK (by omega)]; done) | (simp; done) | omega) | fail))) ⟨k + 1, by omega, rfl⟩ (by simp only [slotN, ruW, ASt.get, aget, ↓reduceIte, Nat.reduceLT, Nat.reduceEqDiff, eq_self]; omega)
    · (repeat' (first | simp (maxSteps := 5000000) (implicitDefEqProofs := false) only [ruA, ruB, aEv, aLen, aBin, bin2, ASt.get, aget, ASt.put, aResL, aOne, ↓reduceIte, reduceCtorEq, Nat.reduceLT, Nat.reduceEqDiff, eq_self, ne_eq, aLenM, false_or, tyE_30, hlt] | (with_reducible refine aIf_split (fun _ => ?_) (fun _ => ?_)) | (with_reducible refine aSel_split (fun _ => ?_) (fun _ => ?_)) | (with_reducible refine aGd_split (fun _ => ?_) (fun _ => ?_))))
      exact retV ⟨_, rfl⟩
end
end Go.Proofs.Ytcindbpnaicemaa
