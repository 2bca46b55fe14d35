/-
  Parts of the proof: NA, NB, EvOpen, ModOpen, CO.
-/
import Derived.Test.YtmcegfoaceilgaaGreatNof15
import Derived.Test.YtmcegfoaceilgaaGreatProg
set_option linter.unusedVariables false
set_option linter.unusedSimpArgs false
namespace Go.Proofs.YtmcegfoaceilgaaGreat
section
open Go.RowKit
set_option maxRecDepth 100000 in
set_option maxHeartbeats 8000000 in
theorem stateLeft_A (m : Mod) (c : List Int) (he : m.events.length ≤ 10) (hm : ∀ e ∈ m.events, e.times ≤ 10 ∧ e.sets.length ≤ 10) (hc : c.length ≤ 1000000) : ADet Tryz.prog 25 [.agg (eMod m), sI c] (val (.int .i64 (leftN m c m.events.length))) := by
  refine adet_of_code mixedT Tryz.func25 rfl (by decide) Tryz.ntmps25 Tryz.results25 rfl (val_ok _) ?_
  (repeat' (first | simp (maxSteps := 5000000) (implicitDefEqProofs := false) only [ruA, ruB, aEv, aTake, aLoad, aField, aLen, ASt.get, aget, ASt.put, aBox, aCells, oneC, oneCL, envOf, ↓reduceIte, reduceCtorEq, Nat.reduceLT, Nat.reduceEqDiff, Nat.reduceAdd, Nat.reduceLeDiff, eq_self, ne_eq, tyF_32_5, tyA_26, tyS_26, tyE_26] | (with_reducible refine aIf_split (fun _ => ?_) (fun _ => ?_)) | (with_reducible refine aSel_split (fun _ => ?_) (fun _ => ?_)) | (with_reducible refine aGd_split (fun _ => ?_) (fun _ => ?_))))
  refine aLoop_of (fun st => ∃ (k : Nat) (n : Int), k ≤ m.events.length ∧ n = leftN m c k ∧ 0 ≤ n ∧ n ≤ 100 * k ∧ st = ⟨42, [(1, sI c), (5, eI n), (10, .sl 5 (m.events.map eEv)), (11, eI (m.events.length : Int)), (12, eI (k : Int))], [], 0⟩) (fun st => m.events.length - slotN st 12) ⟨_, (weak_cut1 (by (first | ((simp only [envIn, tabIn, envLt, tabLt, AV.lt, ruW, ASt.get, aget, ↓reduceIte, Nat.reduceLT, Nat.reduceEqDiff, eq_self]) <;> (repeat' apply And.intro) <;> first | (rw [wrapK (by omega)]; done) | (simp; done) | omega) | fail))), 0, 0, Nat.zero_le _, rfl, by omega, by omega, rfl⟩ ?_
  rintro _ ⟨k, n, hk, hn, hn0, hn1, rfl⟩
  by_cases hlt : k < m.events.length
  · obtain ⟨e, hev⟩ : ∃ e, m.events[k] = e := ⟨_, rfl⟩
    obtain ⟨ht, hs⟩ := hm e (hev ▸ List.getElem_mem hlt)
    have hw0 := wasN_pos c k
    have hE : evN m c k = (max 0 (e.times - wasN c k)).toNat * (e.sets.length : Int) := by
      unfold evN
      rw [List.getElem?_eq_getElem hlt, hev]
      rfl
    obtain ⟨w, hw⟩ : ∃ w, wasN c k = w := ⟨_, rfl⟩
    rw [hw] at hE hw0
    obtain ⟨J, hJ⟩ : ∃ J, (max 0 (e.times - w)).toNat = J := ⟨_, rfl⟩
    rw [hJ] at hE
    have hJ10 : J ≤ 10 := by omega
    obtain ⟨S, hS⟩ : ∃ S, e.sets.length = S := ⟨_, rfl⟩
    rw [hS] at hE hs
    have hjs : J * S ≤ 10 * 10 := Nat.mul_le_mul (by omega) (by omega)
    have hL : leftN m c (k + 1) = n + ((J * S : Nat) : Int) := by rw [leftN, hE, ← hn]; simp
    by_cases hlw : w < e.times
    · have d2 : decide (w < e.times) = true := by simpa using hlw
      have ew0 : IntKind.i64.wrap (e.times - w) = (J : Int) := by rw [wrap_in (by omega) (by omega)]; omega
      have ew1 : IntKind.i64.wrap ((J : Int) * (S : Int)) = ((J * S : Nat) : Int) := by rw [← Int.natCast_mul]; exact wrap_in (by omega) (by omega)
      have ew2 : IntKind.i64.wrap (n + ((J * S : Nat) : Int)) = n + ((J * S : Nat) : Int) := wrap_in (by omega) (by omega)
      by_cases hkc : k < c.length
      · have hmx : max 0 c[k] = w := by
          rw [← hw, wasN, List.getD_eq_getElem?_getD, List.getElem?_eq_getElem hkc]
          simp only [Option.getD_some]
          split <;> omega
        (repeat' (first | simp (maxSteps := 5000000) (implicitDefEqProofs := false) only [ruA, ruB, aEv, aTake, aLoad, aField, aIndex, aLen, aBin, bin2, ASt.get, aget, ASt.put, aStore, aBox, aCells, oneC, oneCL, Value.cells, Value.oneCell', ↓reduceIte, reduceCtorEq, Nat.reduceLT, Nat.reduceEqDiff, Nat.reduceAdd, Nat.reduceLeDiff, eq_self, ne_eq, aMM, tyE_26, tyA_56, tyS_56, tyZ_56, tyE_33, tyA_3, tyS_3, tyF_56_4, tyF_56_3, tyA_33, tyS_33, row_at, hlt, hkc, hev, hmx, hS, d2, ew0, ew1, ew2] | (with_reducible refine aIf_split (fun _ => ?_) (fun _ => ?_)) | (with_reducible refine aSel_split (fun _ => ?_) (fun _ => ?_)) | (with_reducible refine aGd_split (fun _ => ?_) (fun _ => ?_)) | (with_reducible refine aDraw_quiet (by kernel_rfl) ?_)))
        exact roundI (weak_cut1 (by (first | ((simp only [envIn, tabIn, envLt, tabLt, AV.lt, ruW, ASt.get, aget, ↓reduceIte, Nat.reduceLT, Nat.reduceEqDiff, eq_self]) <;> (repeat' apply And.intro) <;> first | (rw [wrapK (by omega)]; done) | (simp; done) | omega) | fail))) ⟨k + 1, n + ((J * S : Nat) : Int), by omega, hL.symm, by omega, by omega, rfl⟩ (by simp only [slotN, ruW, ASt.get, aget, ↓reduceIte, Nat.reduceLT, Nat.reduceEqDiff, eq_self]; omega)
      · obtain rfl : w = 0 := by rw [← hw, wasN, if_neg (fun h => hkc h.1)]
        (repeat' (first | simp (maxSteps := 5000000) (implicitDefEqProofs := false) only [ruA, ruB, aEv, aTake, aLoad, aField, aIndex, aLen, aBin, bin2, ASt.get, aget, ASt.put, aStore, aBox, aCells, oneC, oneCL, Value.cells, Value.oneCell', ↓reduceIte, reduceCtorEq, Nat.reduceLT, Nat.reduceEqDiff, Nat.reduceAdd, Nat.reduceLeDiff, eq_self, ne_eq, tyE_26, tyA_56, tyS_56, tyZ_56, tyE_33, tyA_3, tyS_3, tyF_56_4, tyF_56_3, tyA_33, tyS_33, row_at, hlt, hkc, hev, hS, d2, ew0, ew1, ew2] | (with_reducible refine aIf_split (fun _ => ?_) (fun _ => ?_)) | (with_reducible refine aSel_split (fun _ => ?_) (fun _ => ?_)) | (with_reducible refine aGd_split (fun _ => ?_) (fun _ => ?_)) | (with_reducible refine aDraw_quiet (by kernel_rfl) ?_)))
        exact roundI (weak_cut1 (by (first | ((simp only [envIn, tabIn, envLt, tabLt, AV.lt, ruW, ASt.get, aget, ↓reduceIte, Nat.reduceLT, Nat.reduceEqDiff, eq_self]) <;> (repeat' apply And.intro) <;> first | (rw [wrapK (by omega)]; done) | (simp; done) | omega) | fail))) ⟨k + 1, n + ((J * S : Nat) : Int), by omega, hL.symm, by omega, by omega, rfl⟩ (by simp only [slotN, ruW, ASt.get, aget, ↓reduceIte, Nat.reduceLT, Nat.reduceEqDiff, eq_self]; omega)
    · have d2 : decide (w < e.times) = false := by simpa using hlw
      obtain rfl : J = 0 := by omega
      rw [Nat.zero_mul, Int.natCast_zero, Int.add_zero] at hL
      by_cases hkc : k < c.length
      · have hmx : max 0 c[k] = w := by
          rw [← hw, wasN, List.getD_eq_getElem?_getD, List.getElem?_eq_getElem hkc]
          simp only [Option.getD_some]
          split <;> omega
        (repeat' (first | simp (maxSteps := 5000000) (implicitDefEqProofs := false) only [ruA, ruB, aEv, aTake, aLoad, aField, aIndex, aLen, aBin, bin2, ASt.get, aget, ASt.put, aStore, aBox, aCells, oneC, oneCL, Value.cells, Value.oneCell', ↓reduceIte, reduceCtorEq, Nat.reduceLT, Nat.reduceEqDiff, Nat.reduceAdd, eq_self, ne_eq, aMM, tyE_26, tyA_56, tyS_56, tyZ_56, tyE_33, tyA_3, tyS_3, tyF_56_4, row_at, hlt, hkc, hev, hmx, d2] | (with_reducible refine aIf_split (fun _ => ?_) (fun _ => ?_)) | (with_reducible refine aSel_split (fun _ => ?_) (fun _ => ?_)) | (with_reducible refine aGd_split (fun _ => ?_) (fun _ => ?_)) | (with_reducible refine aDraw_quiet (by kernel_rfl) ?_)))
        exact roundI (weak_cut1 (by (first | ((simp only [envIn, tabIn, envLt, tabLt, AV.lt, ruW, ASt.get, aget, ↓reduceIte, Nat.reduceLT, Nat.reduceEqDiff, eq_self]) <;> (repeat' apply And.intro) <;> first | (rw [wrapK (by omega)]; done) | (simp; done) | omega) | fail))) ⟨k + 1, n, by omega, hL.symm, by omega, by omega, rfl⟩ (by simp only [slotN, ruW, ASt.get, aget, ↓reduceIte, Nat.reduceLT, Nat.reduceEqDiff, eq_self]; omega)
      · obtain rfl : w = 0 := by rw [← hw, wasN, if_neg (fun h => hkc h.1)]
        (repeat' (first | simp (maxSteps := 5000000) (implicitDefEqProofs := false) only [ruA, ruB, aEv, aTake, aLoad, aField, aIndex, aLen, aBin, bin2, ASt.get, aget, ASt.put, aStore, aBox, aCells, oneC, oneCL, Value.cells, Value.oneCell', ↓reduceIte, reduceCtorEq, Nat.reduceLT, Nat.reduceEqDiff, Nat.reduceAdd, eq_self, ne_eq, tyE_26, tyA_56, tyS_56, tyZ_56, tyE_33, tyA_3, tyS_3, tyF_56_4, row_at, hlt, hkc, hev, d2] | (with_reducible refine aIf_split (fun _ => ?_) (fun _ => ?_)) | (with_reducible refine aSel_split (fun _ => ?_) (fun _ => ?_)) | (with_reducible refine aGd_split (fun _ => ?_) (fun _ => ?_)) | (with_reducible refine aDraw_quiet (by kernel_rfl) ?_)))
        exact roundI (weak_cut1 (by (first | ((simp only [envIn, tabIn, envLt, tabLt, AV.lt, ruW, ASt.get, aget, ↓reduceIte, Nat.reduceLT, Nat.reduceEqDiff, eq_self]) <;> (repeat' apply And.intro) <;> first | (rw [wrapK (by omega)]; done) | (simp; done) | omega) | fail))) ⟨k + 1, n, by omega, hL.symm, by omega, by omega, rfl⟩ (by simp only [slotN, ruW, ASt.get, aget, ↓reduceIte, Nat.reduceLT, Nat.reduceEqDiff, eq_self]; omega)
  · obtain rfl : k = m.events.length := by omega
    (repeat' (first | simp (maxSteps := 5000000) (implicitDefEqProofs := false) only [ruA, ruB, aEv, aBin, bin2, ASt.get, aget, ASt.put, aResL, aOne, ↓reduceIte, Nat.reduceLT, Nat.reduceEqDiff, eq_self, hlt] | (with_reducible refine aIf_split (fun _ => ?_) (fun _ => ?_)) | (with_reducible refine aSel_split (fun _ => ?_) (fun _ => ?_)) | (with_reducible refine aGd_split (fun _ => ?_) (fun _ => ?_)) | (with_reducible refine aDraw_quiet (by kernel_rfl) ?_)))
    exact hn
set_option maxRecDepth 100000 in
set_option maxHeartbeats 32000000 in
theorem nodeOfC_A (m : Mod) (c : List Int) (s : St) (he : m.events.length ≤ 10) (hm : ∀ e ∈ m.events, e.times ≤ 10 ∧ e.sets.length ≤ 10) (h1 : s.vals.length ≤ 31) (h2 : c.length ≤ 400) (hv : ∀ x ∈ s.vals, ok64 x) (hc : ∀ x ∈ c, ok64 x) (h3 : s.did.length ≤ 1000000) (h4 : s.cnt.length ≤ 1000000) : ADet Tryz.prog 9 [.agg (eMod m), sI c, .agg (eSt s)] ⟨.agg (eNd (nodeM m c s)), [], 0⟩ := by
  have hL := stateLeft_A m s.cnt he hm h4
  have hO := zoneOfC_A s.vals c (leftN m s.cnt m.events.length) h1 h2 hv hc
  unfold nodeM
  obtain ⟨z, hz⟩ : ∃ z, zoneM s.vals c (leftN m s.cnt m.events.length) = z := ⟨_, rfl⟩
  rw [hz] at hO ⊢
  have hok : (⟨.agg (eNd ⟨z, s.opn, s.don, s.did, s.cnt⟩), [], 0⟩ : Res).Ok := ⟨fun id o h => (by cases h), by simp [AV.lt, AV.ltL]⟩
  refine adet_of_code mixedT Tryz.func9 rfl (by decide) Tryz.ntmps9 Tryz.results9 rfl (hok) ?_
  (repeat' (first | simp (maxSteps := 5000000) (implicitDefEqProofs := false) only [ruA, ruB, aEv, ASt.get, aget, ASt.put, aBox, aCells, oneC, oneCL, Value.cells, Value.oneCell', envOf, ↓reduceIte, Nat.reduceLT, Nat.reduceEqDiff, Nat.reduceAdd, eq_self, tyZ_43] | (with_reducible refine aIf_split (fun _ => ?_) (fun _ => ?_)) | (with_reducible refine aSel_split (fun _ => ?_) (fun _ => ?_)) | (with_reducible refine aGd_split (fun _ => ?_) (fun _ => ?_))))
  refine aDraw_held [2] [0, 1, 2, 3, 4, 5, 8, 9, 10, 11, 12, 13, 15, 16] (.exec 6 (.exec 7 (.exec 14 (.exec 17 (.take 18 (.exec 19 .done)))))) (by kernel_rfl) (by simp [ATab.get_cons]) ?_
  (repeat' (first | simp (maxSteps := 5000000) (implicitDefEqProofs := false) only [ruA, ruB, aEv, aTake, aLoad, aField, ASt.get, aget, ASt.put, aBuild, aFill, oneParts, aCells, oneC, oneCL, Value.cells, Value.oneCell', aResL, aOne, ↓reduceIte, reduceCtorEq, Nat.reduceLT, Nat.reduceEqDiff, Nat.reduceAdd, Nat.reduceLeDiff, eq_self, aExecS, aStoreB, aTakes, aTakeE, aFrom, AV.shift, AV.shiftL, aMay, tyA_43, tyS_43, tyF_35_0, tyA_23, tyS_23, tyA_32, tyS_32, tyF_35_4, tyA_33, tyS_33, tyF_35_1, tyA_3, tyS_3, tyF_35_2, tyF_35_3, tyB_43] | (with_reducible refine aIf_split (fun _ => ?_) (fun _ => ?_)) | (with_reducible refine aSel_split (fun _ => ?_) (fun _ => ?_)) | (with_reducible refine aGd_split (fun _ => ?_) (fun _ => ?_)) | (with_reducible refine aDraw_quiet (by kernel_rfl) ?_) | ((with_reducible apply callV); exact (hL)) | ((with_reducible apply callD); exact (hL)) | ((with_reducible apply callT); exact (hO); exact (.inl (by simp [roL, roA]))) | ((with_reducible apply callT (g := 26)); exact (cloneI_A s.did h3); exact (.inl (by simp [roL, roA]))) | ((with_reducible apply callT (g := 26)); exact (cloneI_A s.cnt h4); exact (.inl (by simp [roL, roA]))) | (with_reducible apply And.intro)))
  all_goals exact gives_tree (by first | rfl | simp [AV.ren, AV.renL])
/-- lists and numbers of a state in which a case begins -/
theorem begin_st (m : Mod) : (beginM m).vals = m.inits ∧ (beginM m).did.length = m.events.length ∧ (beginM m).cnt.length = m.events.length := by
  have h := fold_vals m (-1) (m.order.take m.order.length) (startS m)
  unfold beginM passM
  rw [h.1, h.2.1, h.2.2]
  simp [startS]
set_option maxRecDepth 100000 in
set_option maxHeartbeats 32000000 in
theorem nodeBegin_A (m : Mod) (c : List Int) (hf : Fit m) (hco : condOk m) (hp : ∀ p ∈ m.stages, ok64 p.2) (hi : ∀ x ∈ m.inits, ok64 x) (hm : ∀ e ∈ m.events, e.times ≤ 10 ∧ e.sets.length ≤ 10) (h2 : c.length ≤ 400) (hc : ∀ x ∈ c, ok64 x) : ADet Tryz.prog 12 [.agg (eMod m), sI c] ⟨.agg (eNd (nodeM m c (beginM m))), [], 0⟩ := by
  obtain ⟨-, -, -, hel, -, -, -, -, -, hil⟩ := id hf.sizes
  obtain ⟨e1, e2, e3⟩ := begin_st m
  have hB := begin_A m hf hco hp hi
  have hO := nodeOfC_A m c (beginM m) hel hm (by rw [e1]; omega) h2 (by rw [e1]; exact hi) hc (by omega) (by omega)
  have hok : (⟨.agg (eNd (nodeM m c (beginM m))), [], 0⟩ : Res).Ok := ⟨fun id o h => (by cases h), by simp [AV.lt, AV.ltL]⟩
  generalize nodeM m c (beginM m) = nd at *
  refine adet_of_code mixedT Tryz.func12 rfl (by decide) Tryz.ntmps12 Tryz.results12 rfl (hok) ?_
  (repeat' (first | simp (maxSteps := 5000000) (implicitDefEqProofs := false) only [ruA, ruB, aEv, ASt.get, aget, ASt.put, aBox, aCells, oneC, oneCL, Value.cells, Value.oneCell', envOf, ↓reduceIte, Nat.reduceLT, Nat.reduceAdd, eq_self, tyZ_43] | (with_reducible refine aIf_split (fun _ => ?_) (fun _ => ?_)) | (with_reducible refine aSel_split (fun _ => ?_) (fun _ => ?_)) | (with_reducible refine aGd_split (fun _ => ?_) (fun _ => ?_))))
  refine aDraw_held [1] [0, 1, 2] (.exec 3 (.exec 4 (.exec 5 .done))) (by kernel_rfl) (by simp [ATab.get_cons]) ?_
  (repeat' (first | simp (maxSteps := 5000000) (implicitDefEqProofs := false) only [ruA, ruB, aEv, aTake, aLoad, ASt.get, aget, ASt.put, aCells, oneC, oneCL, Value.oneCell', aResL, aOne, ↓reduceIte, reduceCtorEq, Nat.reduceLT, Nat.reduceEqDiff, Nat.reduceAdd, Nat.reduceLeDiff, eq_self, aExecS, aStoreB, aTakes, aFrom, AV.shift, AV.shiftL, aMay, tyA_43, tyS_43, tyA_32, tyS_32] | (with_reducible refine aIf_split (fun _ => ?_) (fun _ => ?_)) | (with_reducible refine aSel_split (fun _ => ?_) (fun _ => ?_)) | (with_reducible refine aGd_split (fun _ => ?_) (fun _ => ?_)) | (with_reducible refine aDraw_quiet (by kernel_rfl) ?_) | ((with_reducible apply callT); exact (hB); exact (.inl (by simp [roL, roA, treeL, treeC]))) | ((with_reducible apply callT); exact (hO); exact (.inl (by simp [roL, roA, treeL, treeC]))) | (with_reducible apply And.intro)))
  all_goals exact gives_tree (by first | rfl | simp [AV.ren, AV.renL])
set_option maxRecDepth 100000 in
set_option maxHeartbeats 32000000 in
theorem nodeBeginR_A (m : Mod) (c : List Int) (hf : Fit m) (hp : ∀ p ∈ m.stages, ok64 p.2) (hi : ∀ x ∈ m.inits, ok64 x) (hm : ∀ e ∈ m.events, e.times ≤ 10 ∧ e.sets.length ≤ 10) (h2 : c.length ≤ 400) (hc : ∀ x ∈ c, ok64 x) : ADet Tryz.prog 13 [.agg (eMod m), sI c] ⟨.agg (eNd (nodeM m c (beginM m))), [], 0⟩ := by
  obtain ⟨-, -, -, hel, -, -, -, -, -, hil⟩ := id hf.sizes
  obtain ⟨e1, e2, e3⟩ := begin_st m
  have hB := begin19_A m hf hp
  have hO := nodeOf_A m c (beginM m) hel hm (by rw [e1]; omega) h2 (by rw [e1]; exact hi) hc (by omega) (by omega)
  have hok : (⟨.agg (eNd (nodeM m c (beginM m))), [], 0⟩ : Res).Ok := ⟨fun id o h => (by cases h), by simp [AV.lt, AV.ltL]⟩
  generalize nodeM m c (beginM m) = nd at *
  refine adet_of_code mixedT Tryz.func13 rfl (by decide) Tryz.ntmps13 Tryz.results13 rfl (hok) ?_
  (repeat' (first | simp (maxSteps := 5000000) (implicitDefEqProofs := false) only [ruA, ruB, aEv, ASt.get, aget, ASt.put, aBox, aCells, oneC, oneCL, Value.cells, Value.oneCell', envOf, ↓reduceIte, Nat.reduceLT, Nat.reduceAdd, eq_self, tyZ_43] | (with_reducible refine aIf_split (fun _ => ?_) (fun _ => ?_)) | (with_reducible refine aSel_split (fun _ => ?_) (fun _ => ?_)) | (with_reducible refine aGd_split (fun _ => ?_) (fun _ => ?_))))
  refine aDraw_held [1] [0, 1, 2] (.exec 3 (.exec 4 (.exec 5 .done))) (by kernel_rfl) (by simp [ATab.get_cons]) ?_
  (repeat' (first | simp (maxSteps := 5000000) (implicitDefEqProofs := false) only [ruA, ruB, aEv, aTake, aLoad, ASt.get, aget, ASt.put, aCells, oneC, oneCL, Value.oneCell', aResL, aOne, ↓reduceIte, reduceCtorEq, Nat.reduceLT, Nat.reduceEqDiff, Nat.reduceAdd, Nat.reduceLeDiff, eq_self, aExecS, aStoreB, aTakes, aFrom, AV.shift, AV.shiftL, aMay, tyA_43, tyS_43, tyA_32, tyS_32] | (with_reducible refine aIf_split (fun _ => ?_) (fun _ => ?_)) | (with_reducible refine aSel_split (fun _ => ?_) (fun _ => ?_)) | (with_reducible refine aGd_split (fun _ => ?_) (fun _ => ?_)) | (with_reducible refine aDraw_quiet (by kernel_rfl) ?_) | ((with_reducible apply callT); exact (hB); exact (.inl (by simp [roL, roA, treeL, treeC]))) | ((with_reducible apply callT); exact (hO); exact (.inl (by simp [roL, roA, treeL, treeC]))) | (with_reducible apply And.intro)))
  all_goals exact gives_tree (by first | rfl | simp [AV.ren, AV.renL])
set_option maxRecDepth 100000 in
theorem sameNd_A (n : Nd) (h1 : n.z.cls.length ≤ 1000000) (h2 : n.z.gaps.length ≤ 1000000) (h3 : n.did.length ≤ 1000000) (h4 : n.cnt.length ≤ 1000000) : ADet Tryz.prog 10 [.agg (eNd n), .agg (eNd n)] (val (.bool true)) := by
  refine adet_of_code mixedT Tryz.func10 rfl (by decide) Tryz.ntmps10 Tryz.results10 rfl (val_ok _) ?_
  have hZ := sameZz_A n.z h1 h2
  have hD := same10_A n.did n.did h3
  have hC := same10_A n.cnt n.cnt h4
  rw [decide_eq_true rfl] at hD hC
  have b1 : (n.opn == n.opn) = true := by simp
  have b2 : (n.don == n.don) = true := by simp
  (repeat' (first | simp (maxSteps := 5000000) (implicitDefEqProofs := false) only [ruA, ruB, aEv, aTake, aLoad, aField, aBin, bin2, ASt.get, aget, ASt.put, aBox, aCells, oneC, oneCL, Value.oneCell', envOf, aResL, aOne, ↓reduceIte, reduceCtorEq, Nat.reduceLT, Nat.reduceEqDiff, Nat.reduceAdd, Nat.reduceLeDiff, eq_self, tyF_43_0, tyA_41, tyS_41, tyF_43_1, tyA_3, tyS_3, tyF_43_2, tyF_43_3, tyA_33, tyS_33, tyF_43_4, b1, b2] | (with_reducible refine aIf_split (fun _ => ?_) (fun _ => ?_)) | (with_reducible refine aSel_split (fun _ => ?_) (fun _ => ?_)) | (with_reducible refine aGd_split (fun _ => ?_) (fun _ => ?_)) | (with_reducible refine aDraw_quiet (by kernel_rfl) ?_) | ((with_reducible apply callV); exact (hZ)) | ((with_reducible apply callD); exact (hZ)) | ((with_reducible apply callV); exact (hD)) | ((with_reducible apply callD); exact (hD)) | ((with_reducible apply callV); exact (hC)) | ((with_reducible apply callD); exact (hC))))
end
section
open Go.RowKit
set_option maxRecDepth 100000 in
set_option maxHeartbeats 32000000 in
theorem nodeAt_A (m : Mod) (n : Nd) (he : m.events.length ≤ 10) (hm : ∀ e ∈ m.events, e.times ≤ 10 ∧ e.sets.length ≤ 10) (h4 : n.cnt.length ≤ 1000000) : ADet Tryz.prog 42 [.agg (eMod m), .agg (eNd n)] ⟨.agg (eNd n ++ [eI (leftN m n.cnt m.events.length)]), [], 0⟩ := by
  have hL := stateLeft_A m n.cnt he hm h4
  have hok : (⟨.agg (eNd n ++ [eI (leftN m n.cnt m.events.length)]), [], 0⟩ : Res).Ok := ⟨fun id o h => (by cases h), by simp [AV.lt, AV.ltL]⟩
  generalize leftN m n.cnt m.events.length = L at *
  refine adet_of_code mixedT Tryz.func42 rfl (by decide) Tryz.ntmps42 Tryz.results42 rfl (hok) ?_
  (repeat' (first | simp (maxSteps := 5000000) (implicitDefEqProofs := false) only [ruA, ruB, aEv, ASt.get, aget, ASt.put, aBox, aCells, oneC, oneCL, Value.cells, Value.oneCell', envOf, ↓reduceIte, Nat.reduceLT, Nat.reduceEqDiff, Nat.reduceAdd, eq_self, tyZ_76] | (with_reducible refine aIf_split (fun _ => ?_) (fun _ => ?_)) | (with_reducible refine aSel_split (fun _ => ?_) (fun _ => ?_)) | (with_reducible refine aGd_split (fun _ => ?_) (fun _ => ?_))))
  refine aDraw_held [2] [0, 1, 2, 3] (.exec 4 (.take 5 (.exec 6 .done))) (by kernel_rfl) (by simp [ATab.get_cons]) ?_
  (repeat' (first | simp (maxSteps := 5000000) (implicitDefEqProofs := false) only [ruA, ruB, aEv, aTake, aLoad, aField, ASt.get, aget, ASt.put, aBuild, aFill, oneParts, aCells, oneC, oneCL, Value.cells, Value.oneCell', aResL, aOne, ↓reduceIte, reduceCtorEq, Nat.reduceLT, Nat.reduceEqDiff, Nat.reduceAdd, Nat.reduceLeDiff, eq_self, aExecS, aStoreB, aTakes, aTakeE, aFrom, aMay, tyA_76, tyS_76, tyA_43, tyS_43, tyA_32, tyS_32, tyF_43_4, tyA_33, tyS_33, tyB_76] | (with_reducible refine aIf_split (fun _ => ?_) (fun _ => ?_)) | (with_reducible refine aSel_split (fun _ => ?_) (fun _ => ?_)) | (with_reducible refine aGd_split (fun _ => ?_) (fun _ => ?_)) | (with_reducible refine aDraw_quiet (by kernel_rfl) ?_) | ((with_reducible apply callV); exact (hL)) | ((with_reducible apply callD); exact (hL)) | (with_reducible apply And.intro)))
  all_goals exact gives_tree (by first | rfl | simp [AV.ren, AV.renL])
def statZ (m : Mod) (n : Nd) : St := ⟨List.replicate m.attrs.length 0, n.opn, n.don, n.did, n.cnt⟩
def NodeP (m : Mod) (c : List Int) (n : Nd) : Prop := chkS m (statZ m n) = true ∧ CheckP n.z (m.attrs.length : Int) c (leftN m n.cnt m.events.length)
set_option maxRecDepth 100000 in
set_option maxHeartbeats 32000000 in
theorem nodeCheck_A (m : Mod) (c : List Int) (n : Nd) (he : m.events.length ≤ 10) (hm : ∀ e ∈ m.events, e.times ≤ 10 ∧ e.sets.length ≤ 10) (ha : m.attrs.length ≤ 1000000) (h1 : n.z.cls.length ≤ 1000000) (h2 : n.z.gaps.length ≤ 1000000) (h3 : c.length ≤ 1000000) (hc : ∀ x ∈ c, ok64 x) (h5 : n.did.length ≤ 1000000) (h4 : n.cnt.length ≤ 1000000) : ARel Tryz.prog 19 [.agg (eMod m), sI c, .agg (eNd n)] fun R => ∃ b, R = val (.bool b) ∧ (b = true ↔ NodeP m c n) := by
  refine arel_of_code mixedT Tryz.func19 rfl (by decide) Tryz.ntmps19 Tryz.results19 rfl ?_
  have hA := nodeAt_A m n he hm h4
  have hSt := status_A (n.z.cls.map eCls) (n.z.gaps.map fun n => [eI n]) n.opn n.don n.did n.cnt h5 h4
  have hS := checkS_A m (statZ m n) (by omega)
  have hrep : List.replicate m.attrs.length [eI 0] = (List.replicate m.attrs.length 0).map fun n => [eI n] := by simp
  obtain ⟨t, ht, hZ⟩ := adet_iff (zoneCheck_A n.z (m.attrs.length : Int) c (leftN m n.cnt m.events.length) h1 h2 h3 hc)
  unfold NodeP
  rw [← ht]
  clear ht
  generalize leftN m n.cnt m.events.length = L at *
  have hx : ∀ r, r = chkS m (statZ m n) → True := fun _ _ => trivial
  cases hb : chkS m (statZ m n) with
  | true =>
    rw [hb] at hS
    (repeat' (first | simp (maxSteps := 5000000) (implicitDefEqProofs := false) only [ruA, ruB, aEv, aTake, aLoad, aField, aLen, ASt.get, aget, ASt.put, aStore, aBox, aMake, aCells, oneC, oneCL, Value.cells, Value.oneCell', envOf, ↓reduceIte, reduceCtorEq, Nat.reduceLT, Nat.reduceEqDiff, Nat.reduceAdd, Nat.reduceLeDiff, eq_self, ne_eq, AV.shift, AV.shiftL, tyA_32, tyS_32, tyA_43, tyS_43, tyZ_76, tyS_76, tyF_76_0, tyZ_35, tyS_35, tyF_32_0, tyA_22, tyS_22, tyE_22, tyR_23, tyZ_2, tyF_35_0, tyS_23, tyA_35] | (with_reducible refine aIf_split (fun _ => ?_) (fun _ => ?_)) | (with_reducible refine aSel_split (fun _ => ?_) (fun _ => ?_)) | (with_reducible refine aGd_split (fun _ => ?_) (fun _ => ?_)) | (with_reducible refine aDraw_quiet (by kernel_rfl) ?_) | ((with_reducible apply callT); exact (hA); exact (.inl (by simp [roL, roA, treeL, treeC]))) | ((with_reducible apply callT); exact (hSt); exact (.inl (by simp [roL, roA, treeL, treeC]))) | ((with_reducible apply callV); exact (hS)) | ((with_reducible apply callD); exact (hS)) | ((with_reducible apply callV); exact (hZ)) | ((with_reducible apply callD); exact (hZ))))
    refine ⟨⟨by omega, by omega⟩, ?_⟩
    (repeat' (first | simp (maxSteps := 5000000) (implicitDefEqProofs := false) only [ruA, ruB, aEv, aTake, aLoad, aField, aLen, ASt.get, aget, ASt.put, aResL, aOne, ↓reduceIte, reduceCtorEq, Nat.reduceLT, Nat.reduceEqDiff, Nat.reduceAdd, Nat.reduceLeDiff, eq_self, ne_eq, tyF_76_0, tyF_32_0, tyA_22, tyS_22, tyE_22, tyF_43_0, tyA_41, tyS_41, tyF_76_1, tyA_3, tyS_3, hrep] | (with_reducible refine aIf_split (fun _ => ?_) (fun _ => ?_)) | (with_reducible refine aSel_split (fun _ => ?_) (fun _ => ?_)) | (with_reducible refine aGd_split (fun _ => ?_) (fun _ => ?_)) | (with_reducible refine aDraw_quiet (by kernel_rfl) ?_) | ((with_reducible apply callV); exact (hS)) | ((with_reducible apply callD); exact (hS)) | ((with_reducible apply callV); exact (hZ)) | ((with_reducible apply callD); exact (hZ))))
    all_goals exact retV ⟨t, rfl, by simp⟩
  | false =>
    rw [hb] at hS
    (repeat' (first | simp (maxSteps := 5000000) (implicitDefEqProofs := false) only [ruA, ruB, aEv, aTake, aLoad, aField, aLen, ASt.get, aget, ASt.put, aStore, aBox, aMake, aCells, oneC, oneCL, Value.cells, Value.oneCell', envOf, ↓reduceIte, reduceCtorEq, Nat.reduceLT, Nat.reduceEqDiff, Nat.reduceAdd, Nat.reduceLeDiff, eq_self, ne_eq, AV.shift, AV.shiftL, tyA_32, tyS_32, tyA_43, tyS_43, tyZ_76, tyS_76, tyF_76_0, tyZ_35, tyS_35, tyF_32_0, tyA_22, tyS_22, tyE_22, tyR_23, tyZ_2, tyF_35_0, tyS_23, tyA_35] | (with_reducible refine aIf_split (fun _ => ?_) (fun _ => ?_)) | (with_reducible refine aSel_split (fun _ => ?_) (fun _ => ?_)) | (with_reducible refine aGd_split (fun _ => ?_) (fun _ => ?_)) | (with_reducible refine aDraw_quiet (by kernel_rfl) ?_) | ((with_reducible apply callT); exact (hA); exact (.inl (by simp [roL, roA, treeL, treeC]))) | ((with_reducible apply callT); exact (hSt); exact (.inl (by simp [roL, roA, treeL, treeC]))) | ((with_reducible apply callV); exact (hS)) | ((with_reducible apply callD); exact (hS)) | ((with_reducible apply callV); exact (hZ)) | ((with_reducible apply callD); exact (hZ))))
    refine ⟨⟨by omega, by omega⟩, ?_⟩
    (repeat' (first | simp (maxSteps := 5000000) (implicitDefEqProofs := false) only [ruA, ruB, aEv, ASt.get, aget, ASt.put, aResL, aOne, ↓reduceIte, Nat.reduceLT, Nat.reduceEqDiff, eq_self, hrep] | (with_reducible refine aIf_split (fun _ => ?_) (fun _ => ?_)) | (with_reducible refine aSel_split (fun _ => ?_) (fun _ => ?_)) | (with_reducible refine aGd_split (fun _ => ?_) (fun _ => ?_)) | (with_reducible refine aDraw_quiet (by kernel_rfl) ?_) | ((with_reducible apply callV); exact (hS)) | ((with_reducible apply callD); exact (hS)) | ((with_reducible apply callV); exact (hZ)) | ((with_reducible apply callD); exact (hZ))))
    all_goals exact retV ⟨false, rfl, by simp⟩
/-- node.Check of the node of numbers -/
theorem nodeP_zone (m : Mod) (c : List Int) (n : Nd) (vals : List Int) (hv : vals.length ≤ 31) (ha : vals.length = m.attrs.length) (hz : n.z = zoneM vals c (leftN m n.cnt m.events.length)) (hs : chkS m (statZ m n) = true) : NodeP m c n := by
  refine ⟨hs, ?_⟩
  rw [hz, ← ha]
  exact check_zone vals c _ hv
def exM27 : Mod := ⟨[⟨#[97]⟩], [2], [], [], [], [], [], [], [], []⟩
def ex27 : Nd := ⟨⟨[⟨1, -1⟩, ⟨0, 0⟩], [0]⟩, 0, 0, [], []⟩
theorem ex27_begin : beginM exM27 = ⟨[2], 0, 0, [], []⟩ := rfl
theorem ex27_zone : zoneM [2] [3] 0 = ex27.z := by
  have h : (zoneM [2] [3] 0).cls.map (fun c => (c.attrs, c.const)) = ex27.z.cls.map (fun c => (c.attrs, c.const)) := by kernel_rfl
  have h2 : (zoneM [2] [3] 0).gaps = ex27.z.gaps := by kernel_rfl
  refine zn_ext ?_ h2
  have inj : ∀ l k : List Cls, l.map (fun c => (c.attrs, c.const)) = k.map (fun c => (c.attrs, c.const)) → l = k := fun l k h => by
    refine (List.map_inj_right fun x y h => ?_).1 h
    cases x
    cases y
    simpa using h
  exact inj _ _ h
theorem ex27_node : nodeM exM27 [3] (beginM exM27) = ex27 := by
  rw [ex27_begin]
  show (⟨zoneM [2] [3] 0, 0, 0, [], []⟩ : Nd) = ex27
  rw [ex27_zone]
  rfl
theorem ex27_chk : chkS exM27 (statZ exM27 ex27) = true := by kernel_rfl
theorem ex27_P : NodeP exM27 [3] ex27 := nodeP_zone exM27 [3] ex27 [2] (by simp) rfl ex27_zone.symm ex27_chk
theorem ex27_fit : Fit exM27 := ⟨by simp [greatS, exM27], by simp [exM27], by simp [exM27], by simp [exM27]⟩
set_option maxRecDepth 100000 in
set_option maxHeartbeats 8000000 in
theorem awake27_A : ADet Tryz.prog 8 [] (val (.bool true)) := by
  refine adet_of_code mixedT Tryz.func8 rfl (by decide) Tryz.ntmps8 Tryz.results8 rfl (val_ok _) ?_
  have hB := nodeBegin_A exM27 [3] ex27_fit (by simp [condOk, exM27]) (by simp [exM27]) (by simp [exM27, ok64]) (by simp [exM27]) (by simp) (by simp [ok64])
  rw [ex27_node] at hB
  have hC : ADet Tryz.prog 19 [.agg (eMod exM27), sI [3], .agg (eNd ex27)] (val (.bool true)) := (nodeCheck_A exM27 [3] ex27 (by simp [exM27]) (by simp [exM27]) (by simp [exM27]) (by simp [ex27]) (by simp [ex27]) (by simp) (by simp [ok64]) (by simp [ex27]) (by simp [ex27])).mono fun R ⟨b, h1, h2⟩ => by rw [h1, h2.2 ex27_P]
  have hB2 := hB.fits (args := [.agg [.sl 1 [[eS ⟨#[97]⟩]], .sl 1 [[eI 2]], .c (.slice none 0 0), .c (.slice none 0 0), .c (.slice none 0 0), .c (.slice none 0 0), .c (.slice none 0 0), .c (.slice none 0 0), .c (.slice none 0 0), .c (.slice none 0 0)], .sl 1 [[eI 3]]]) ⟨.agg ⟨.refl _, .refl _, .nil 1, .nil 2, .nil 2, .nil 5, .nil 3, .nil 5, .nil 2, .nil 2, trivial⟩, .one (.refl _), trivial⟩
  have hC2 := hC.fits (args := [.agg [.sl 1 [[eS ⟨#[97]⟩]], .sl 1 [[eI 2]], .c (.slice none 0 0), .c (.slice none 0 0), .c (.slice none 0 0), .c (.slice none 0 0), .c (.slice none 0 0), .c (.slice none 0 0), .c (.slice none 0 0), .c (.slice none 0 0)], .sl 1 [[eI 3]], .agg (eNd ex27)]) ⟨.agg ⟨.refl _, .refl _, .nil 1, .nil 2, .nil 2, .nil 5, .nil 3, .nil 5, .nil 2, .nil 2, trivial⟩, .one (.refl _), .one (.refl _), trivial⟩
  (repeat' (first | simp (maxSteps := 5000000) (implicitDefEqProofs := false) only [ruA, ruB, aEv, aTake, aLoad, ASt.get, aget, ASt.put, aStore, aBox, aBuildSlice, aBuild, aFill, oneParts, aCells, oneC, oneCL, treeC, treeL, aLit, Value.cells, Value.oneCell', envOf, ↓reduceIte, reduceCtorEq, Nat.reduceLT, Nat.reduceEqDiff, Nat.reduceAdd, Nat.reduceMul, Nat.reduceLeDiff, eq_self, aBuildSlice1, frzs, ownIds, tyR_22, tyR_23, tyB_32, tyZ_32, tyS_32, tyA_32] | (with_reducible refine aIf_split (fun _ => ?_) (fun _ => ?_)) | (with_reducible refine aSel_split (fun _ => ?_) (fun _ => ?_)) | (with_reducible refine aGd_split (fun _ => ?_) (fun _ => ?_))))
  repeat (refine ⟨rfl, ?_⟩)
  refine callZ [0, 1, 3] (R := ⟨.agg (eNd ex27), [], 0⟩) ?_ ?_ ?_
  · simp (maxSteps := 5000000) (implicitDefEqProofs := false) only [ruB, ↓reduceIte, reduceCtorEq, Nat.reduceEqDiff, eq_self, dref, dref1, frzs, frz1, AV.frz, AV.frzL, frzEnv, frzAVs, frzAV, frzTab, AObj.frz]
    exact hB2
  · simp (maxSteps := 5000000) (implicitDefEqProofs := false) only [ruB, ↓reduceIte, reduceCtorEq, Nat.reduceEqDiff, eq_self, frz1, AV.frz, AV.frzL, frzEnv, frzAVs, frzAV, frzTab, AObj.frz]
    left
    simp [roL, roA, treeL, treeC]
  · have b2 : (((2 : Nat) : Int) == 2) = true := by decide
    have b1 : ((1 : Int) == 1) = true := by decide
    have b0 : (0 : Int) < ((2 : Nat) : Int) := by decide
    have e0 : ([[eI 1, eI (-1)], [eI 0, eI 0]] : List (List AV))[Int.toNat 0]?.getD [] = [eI 1, eI (-1)] := rfl
    have hsh : ∀ k, ATab.shift k ([] : ATab) = [] := fun _ => rfl
    (repeat' (first | simp (maxSteps := 5000000) (implicitDefEqProofs := false) only [ruA, ruB, aEv, aTake, aLoad, aField, aIndex, aLen, aBin, bin2, ASt.get, aget, ASt.put, aStore, aBox, aBuildSlice, aCells, oneC, oneCL, treeC, treeL, aLit, Value.cells, Value.oneCell', ↓reduceIte, reduceCtorEq, Nat.reduceLT, Nat.reduceEqDiff, Nat.reduceAdd, Nat.reduceMul, Nat.reduceLeDiff, eq_self, ne_eq, aBuildSlice1, frzs, frz1, ownIds, AV.frz, AV.frzL, frzEnv, AV.shift, AV.shiftL, frzTab, AObj.frz, tyR_23, tyS_32, tyA_32, tyZ_43, tyS_43, tyF_43_0, tyF_41_0, tyA_39, tyS_39, tyE_39, tyF_58_0, tyA_3, tyS_3, tyA_43, ex27, eCls, b2, b1, b0, e0, hsh] | (with_reducible refine aIf_split (fun _ => ?_) (fun _ => ?_)) | (with_reducible refine aSel_split (fun _ => ?_) (fun _ => ?_)) | (with_reducible refine aGd_split (fun _ => ?_) (fun _ => ?_)) | (with_reducible refine aDraw_quiet (by kernel_rfl) ?_) | (with_reducible apply And.intro)))
    all_goals first
      | rfl
      | skip
    refine callV (v := .bool true) (by simp (maxSteps := 5000000) (implicitDefEqProofs := false) only [ruB, ↓reduceIte, eq_self, dref, dref1]; exact hC2) ?_
    (repeat' (first | simp (maxSteps := 5000000) (implicitDefEqProofs := false) only [ruA, aEv, ASt.get, aget, ASt.put, aResL, aOne, ↓reduceIte, Nat.reduceLT, Nat.reduceEqDiff, eq_self] | (with_reducible refine aIf_split (fun _ => ?_) (fun _ => ?_)) | (with_reducible refine aSel_split (fun _ => ?_) (fun _ => ?_)) | (with_reducible refine aGd_split (fun _ => ?_) (fun _ => ?_)) | (with_reducible refine aDraw_quiet (by kernel_rfl) ?_)))
theorem nodeM_len (m : Mod) (c : List Int) (s : St) (hv : s.vals.length ≤ 31) (hc : c.length ≤ 31) : (nodeM m c s).z.cls.length ≤ 1000000 ∧ (nodeM m c s).z.gaps.length ≤ 1000000 := zoneM_len s.vals c _ hv hc
set_option maxRecDepth 100000 in
set_option maxHeartbeats 32000000 in
theorem nodeOf27_A (m : Mod) (c : List Int) (s : St) (hle : m.events.length ≤ 9223372036854775807) (hco : condOk m) (hp : ∀ p ∈ m.stages, ok64 p.2) (hi : ∀ x ∈ m.inits, ok64 x) (hv : ∀ x ∈ s.vals, ok64 x) (hc : ∀ x ∈ c, ok64 x) : ADet Tryz.prog 3 [.agg (eMod m), sI c, .agg (eSt s)] (val (.bool true)) := by
  refine adet_of_code mixedT Tryz.func3 rfl (by decide) Tryz.ntmps3 Tryz.results3 rfl (val_ok _) ?_
  (repeat' (first | simp (maxSteps := 5000000) (implicitDefEqProofs := false) only [ruA, ruB, aEv, aTake, aLoad, ASt.get, aget, ASt.put, aBox, aCells, oneC, oneCL, Value.oneCell', envOf, ↓reduceIte, reduceCtorEq, Nat.reduceLT, Nat.reduceEqDiff, Nat.reduceAdd, eq_self, tyA_32, tyS_32] | (with_reducible refine aIf_split (fun _ => ?_) (fun _ => ?_)) | (with_reducible refine aSel_split (fun _ => ?_) (fun _ => ?_)) | (with_reducible refine aGd_split (fun _ => ?_) (fun _ => ?_))))
  refine callPB (wild_A m hle) fun b hb => ?_
  cases b with
  | true =>
    (repeat' (first | simp (maxSteps := 5000000) (implicitDefEqProofs := false) only [ruA, ruB, aEv, ASt.get, aget, ASt.put, aResL, aOne, ↓reduceIte, Nat.reduceLT, Nat.reduceEqDiff, eq_self] | (with_reducible refine aIf_split (fun _ => ?_) (fun _ => ?_)) | (with_reducible refine aSel_split (fun _ => ?_) (fun _ => ?_)) | (with_reducible refine aGd_split (fun _ => ?_) (fun _ => ?_)) | (with_reducible refine aDraw_quiet (by kernel_rfl) ?_) | ((with_reducible apply callV (g := 8)); exact (awake27_A)) | ((with_reducible apply callD (g := 8)); exact (awake27_A))))
  | false =>
    obtain ⟨hf, hm⟩ := hb rfl
    (repeat' (first | simp (maxSteps := 5000000) (implicitDefEqProofs := false) only [ruA, ruB, aEv, aTake, aLoad, ASt.get, aget, ASt.put, ↓reduceIte, Nat.reduceLT, Nat.reduceEqDiff, Nat.reduceAdd, eq_self, tyA_35, tyS_35] | (with_reducible refine aIf_split (fun _ => ?_) (fun _ => ?_)) | (with_reducible refine aSel_split (fun _ => ?_) (fun _ => ?_)) | (with_reducible refine aGd_split (fun _ => ?_) (fun _ => ?_))))
    refine callPB (great15_A s) fun b2 hb2 => ?_
    cases b2 with
    | true =>
      (repeat' (first | simp (maxSteps := 5000000) (implicitDefEqProofs := false) only [ruA, ruB, aEv, ASt.get, aget, ASt.put, aResL, aOne, ↓reduceIte, Nat.reduceLT, Nat.reduceEqDiff, eq_self] | (with_reducible refine aIf_split (fun _ => ?_) (fun _ => ?_)) | (with_reducible refine aSel_split (fun _ => ?_) (fun _ => ?_)) | (with_reducible refine aGd_split (fun _ => ?_) (fun _ => ?_)) | (with_reducible refine aDraw_quiet (by kernel_rfl) ?_) | ((with_reducible apply callV (g := 8)); exact (awake27_A)) | ((with_reducible apply callD (g := 8)); exact (awake27_A))))
    | false =>
      obtain ⟨hs1, hs2, hs3⟩ := hb2 rfl
      by_cases hcl : c.length ≤ 20
      · have d1 : decide (20 < (c.length : Int)) = false := by simp only [decide_eq_false_iff_not]; omega
        by_cases hvl : s.vals.length ≤ 20
        · have d2 : decide (20 < (s.vals.length : Int)) = false := by simp only [decide_eq_false_iff_not]; omega
          obtain ⟨-, -, -, hel, -, -, -, -, -, hil⟩ := id hf.sizes
          obtain ⟨e1, e2, e3⟩ := begin_st m
          have hO := nodeOfC_A m c s hel hm (by omega) (by omega) hv hc (by omega) (by omega)
          have hR := nodeOf_A m c s hel hm (by omega) (by omega) hv hc (by omega) (by omega)
          obtain ⟨z1, z2⟩ := nodeM_len m c s (by omega) (by omega)
          have hS := sameNd_A (nodeM m c s) z1 z2 (by show s.did.length ≤ _; omega) (by show s.cnt.length ≤ _; omega)
          have hB := nodeBegin_A m c hf hco hp hi hm (by omega) hc
          have hBR := nodeBeginR_A m c hf hp hi hm (by omega) hc
          obtain ⟨y1, y2⟩ := nodeM_len m c (beginM m) (by rw [e1]; omega) (by omega)
          have hSB := sameNd_A (nodeM m c (beginM m)) y1 y2 (by show (beginM m).did.length ≤ _; omega) (by show (beginM m).cnt.length ≤ _; omega)
          have hdid : (nodeM m c s).did.length ≤ 1000000 := by show s.did.length ≤ _; omega
          have hcnt : (nodeM m c s).cnt.length ≤ 1000000 := by show s.cnt.length ≤ _; omega
          obtain ⟨nd, hnd⟩ : ∃ nd, nodeM m c s = nd := ⟨_, rfl⟩
          obtain ⟨nb, hnb⟩ : ∃ nd, nodeM m c (beginM m) = nd := ⟨_, rfl⟩
          rw [hnd] at hO hR hS hdid hcnt
          rw [hnb] at hB hBR hSB
          have hT := status_A (nd.z.cls.map eCls) (nd.z.gaps.map fun n => [eI n]) nd.opn nd.don nd.did nd.cnt hdid hcnt
          have hTR := statusR_A nd hdid hcnt
          have hSS := sameS_A ⟨[], nd.opn, nd.don, nd.did, nd.cnt⟩ ⟨[], nd.opn, nd.don, nd.did, nd.cnt⟩ (by simp) hdid hcnt
          have eSS : sameB ⟨[], nd.opn, nd.don, nd.did, nd.cnt⟩ ⟨[], nd.opn, nd.don, nd.did, nd.cnt⟩ = true := by simp [sameB]
          rw [eSS] at hSS
          have hSS2 := hSS.fits (args := [.agg [.c (.slice none 0 0), eI nd.opn, eI nd.don, sI nd.did, sI nd.cnt], .agg [.c (.slice none 0 0), eI nd.opn, eI nd.don, sI nd.did, sI nd.cnt]]) ⟨.agg ⟨.nil 1, .refl _, .refl _, .refl _, .refl _, trivial⟩, .agg ⟨.nil 1, .refl _, .refl _, .refl _, .refl _, trivial⟩, trivial⟩
          clear hnd hnb eSS hSS y1 y2 z1 z2
          (repeat' (first | simp (maxSteps := 5000000) (implicitDefEqProofs := false) only [ruA, ruB, aEv, aTake, aLoad, aField, aLen, aBin, bin2, ASt.get, aget, ASt.put, ↓reduceIte, reduceCtorEq, Nat.reduceLT, Nat.reduceEqDiff, Nat.reduceAdd, Nat.reduceLeDiff, eq_self, ne_eq, tyA_32, tyS_32, tyA_35, tyS_35, tyE_23, tyF_35_0, tyA_23, tyS_23, d1, d2] | (with_reducible refine aIf_split (fun _ => ?_) (fun _ => ?_)) | (with_reducible refine aSel_split (fun _ => ?_) (fun _ => ?_)) | (with_reducible refine aGd_split (fun _ => ?_) (fun _ => ?_))))
          refine callT hO (.inl (by simp [roL, roA, treeL, treeC])) ?_
          (repeat' (first | simp (maxSteps := 5000000) (implicitDefEqProofs := false) only [ruA, ruB, aEv, ASt.get, aget, ASt.put, aStore, aBox, aCells, oneC, oneCL, Value.cells, Value.oneCell', ↓reduceIte, Nat.reduceLT, Nat.reduceEqDiff, Nat.reduceAdd, eq_self, AV.shift, AV.shiftL, tyZ_43, tyS_43] | (with_reducible refine aIf_split (fun _ => ?_) (fun _ => ?_)) | (with_reducible refine aSel_split (fun _ => ?_) (fun _ => ?_)) | (with_reducible refine aGd_split (fun _ => ?_) (fun _ => ?_))))
          refine aDraw_held [] [0, 1, 2, 3] (.exec 4 (.exec 5 (.take 6 (.take 7 (.take 8 (.take 10 (.take 11 (.exec 9 (.exec 12 (.exec 13 (.take 14 (.take 15 (.take 16 (.take 18 (.exec 17 (.exec 19 (.exec 20 (.take 21 (.take 22 (.exec 23 (.take 24 (.exec 25 .done)))))))))))))))))))))) (by kernel_rfl) (by simp [ATab.get_cons]) ?_
          (repeat' (first | simp (maxSteps := 5000000) (implicitDefEqProofs := false) only [ruA, ruB, aEv, aTake, aLoad, ASt.get, aget, ASt.put, aResL, aOne, ↓reduceIte, reduceCtorEq, Nat.reduceLT, Nat.reduceEqDiff, Nat.reduceAdd, eq_self, aTakes, aTakeE, aElder, aFrom, AV.shift, AV.shiftL, tyA_32, tyS_32, tyA_35, tyS_35, tyS_43, tyA_43] | (with_reducible refine aIf_split (fun _ => ?_) (fun _ => ?_)) | (with_reducible refine aSel_split (fun _ => ?_) (fun _ => ?_)) | (with_reducible refine aGd_split (fun _ => ?_) (fun _ => ?_)) | (with_reducible refine aDraw_quiet (by kernel_rfl) ?_) | ((with_reducible apply callT); exact (hR); exact (.inl (by simp [roL, roA, treeL, treeC]))) | ((with_reducible apply callV); exact (hS)) | ((with_reducible apply callD); exact (hS)) | ((with_reducible apply callT); exact (hB); exact (.inl (by simp [roL, roA, treeL, treeC]))) | ((with_reducible apply callT); exact (hBR); exact (.inl (by simp [roL, roA, treeL, treeC]))) | ((with_reducible apply callV); exact (hSB)) | ((with_reducible apply callD); exact (hSB)) | ((with_reducible apply callT); exact (hT); exact (.inl (by simp [roL, roA, treeL, treeC]))) | ((with_reducible apply callT); exact (hTR); exact (.inl (by simp [roL, roA, treeL, treeC]))) | ((with_reducible apply callV); exact (hSS2)) | ((with_reducible apply callD); exact (hSS2)) | ((with_reducible apply callV (g := 8)); exact (awake27_A)) | ((with_reducible apply callD (g := 8)); exact (awake27_A)) | (with_reducible apply And.intro)))
          all_goals trace_state
        · have d2 : decide (20 < (s.vals.length : Int)) = true := by simp only [decide_eq_true_eq]; omega
          (repeat' (first | simp (maxSteps := 5000000) (implicitDefEqProofs := false) only [ruA, ruB, aEv, aTake, aLoad, aField, aLen, aBin, bin2, ASt.get, aget, ASt.put, aResL, aOne, ↓reduceIte, reduceCtorEq, Nat.reduceLT, Nat.reduceEqDiff, Nat.reduceAdd, Nat.reduceLeDiff, eq_self, ne_eq, tyE_23, tyF_35_0, tyA_23, tyS_23, d1, d2] | (with_reducible refine aIf_split (fun _ => ?_) (fun _ => ?_)) | (with_reducible refine aSel_split (fun _ => ?_) (fun _ => ?_)) | (with_reducible refine aGd_split (fun _ => ?_) (fun _ => ?_)) | (with_reducible refine aDraw_quiet (by kernel_rfl) ?_) | ((with_reducible apply callV (g := 8)); exact (awake27_A)) | ((with_reducible apply callD (g := 8)); exact (awake27_A))))
      · have d1 : decide (20 < (c.length : Int)) = true := by simp only [decide_eq_true_eq]; omega
        (repeat' (first | simp (maxSteps := 5000000) (implicitDefEqProofs := false) only [ruA, ruB, aEv, aLen, aBin, bin2, ASt.get, aget, ASt.put, aResL, aOne, ↓reduceIte, Nat.reduceLT, Nat.reduceEqDiff, eq_self, ne_eq, tyE_23, d1] | (with_reducible refine aIf_split (fun _ => ?_) (fun _ => ?_)) | (with_reducible refine aSel_split (fun _ => ?_) (fun _ => ?_)) | (with_reducible refine aGd_split (fun _ => ?_) (fun _ => ?_)) | (with_reducible refine aDraw_quiet (by kernel_rfl) ?_) | ((with_reducible apply callV (g := 8)); exact (awake27_A)) | ((with_reducible apply callD (g := 8)); exact (awake27_A))))
end
section
open Go.RowKit

theorem opensInt : Opens Tryz.prog 3 (intR .i64) := opens_int Tryz.underlying3
theorem opensI64 : Opens Tryz.prog 2 (intR .i64) := opens_int Tryz.underlying2
def valR : Rep (Int × Int × Unit) := pairR (intR .i64) (pairR (intR .i64) nilR)
theorem opensVal : Opens Tryz.prog 134 valR :=
  opens_struct Tryz.underlying134 (by kernel_rfl) (opensF_cons (by kernel_rfl) (by kernel_rfl) opensInt (opensF_cons (by kernel_rfl) (by kernel_rfl) opensI64 (opensF_nil _ _)))
def instP : Rep (Int × (Int × Int × Unit) × (Int × Int × Unit) × Int × Int × Unit) := pairR (intR .i64) (pairR valR (pairR valR (pairR (intR .i64) (pairR (intR .i64) nilR))))
theorem opensInstP : Opens Tryz.prog 136 instP :=
  opens_struct Tryz.underlying136 (by kernel_rfl) (opensF_cons (by kernel_rfl) (by kernel_rfl) opensInt (opensF_cons (by kernel_rfl) (by kernel_rfl) opensVal (opensF_cons (by kernel_rfl) (by kernel_rfl) opensVal (opensF_cons (by kernel_rfl) (by kernel_rfl) opensInt (opensF_cons (by kernel_rfl) (by kernel_rfl) opensInt (opensF_nil _ _))))))
theorem opensInst : Opens Tryz.prog 136 instR := opens_map opensInstP (fun p => ⟨p.1, p.2.1.1, p.2.1.2.1, p.2.2.1.1, p.2.2.1.2.1, p.2.2.2.1, p.2.2.2.2.1⟩) (by
  rintro w S cs ⟨op, ⟨la, ln, _⟩, ⟨ra, rn, _⟩, n, u, _⟩ h
  obtain ⟨c0, q0, e0, ⟨a0, h0⟩, h'⟩ := pair_inv h
  obtain ⟨c1, q1, e1, h1, h''⟩ := pair_inv h'
  obtain ⟨c2, q2, e2, h2, h3⟩ := pair_inv h''
  obtain ⟨c3, q3, e3, ⟨a3, h3'⟩, h4⟩ := pair_inv h3
  obtain ⟨c4, q4, e4, ⟨a4, h4'⟩, h5⟩ := pair_inv h4
  have h5 : q4 = [] := h5
  obtain ⟨d0, k0, f0, ⟨b0, g0⟩, m0⟩ := pair_inv h1
  obtain ⟨d1, k1, f1, ⟨b1, g1⟩, m1⟩ := pair_inv m0
  have m1 : k1 = [] := m1
  obtain ⟨d2, k2, f2, ⟨b2, g2⟩, m2⟩ := pair_inv h2
  obtain ⟨d3, k3, f3, ⟨b3, g3⟩, m3⟩ := pair_inv m2
  have m3 : k3 = [] := m3
  refine ⟨?_, wf_i64 h0, wf_i64 g0, wf_i64 g1, wf_i64 g2, wf_i64 g3, wf_i64 h3', wf_i64 h4'⟩
  rw [e0, e1, e2, e3, e4, h5, a0, f0, f1, m1, b0, b1, f2, f3, m3, b2, b3, a3, a4]
  rfl)
theorem opensInsts : Opens Tryz.prog 82 (sliceR instR) := opens_slice Tryz.underlying82 (by kernel_rfl) (by decide) opensInst
theorem opensI64s : Opens Tryz.prog 23 (sliceR (intR .i64)) := opens_slice Tryz.underlying23 (by kernel_rfl) (by decide) opensI64
theorem opensIntsE : Opens Tryz.prog 33 (sliceR (intR .i64)) := opens_slice Tryz.underlying33 (by kernel_rfl) (by decide) opensInt
def stP : Rep (List Int × Int × Int × List Int × List Int × Unit) := pairR (sliceR (intR .i64)) (pairR (intR .i64) (pairR (intR .i64) (pairR (sliceR (intR .i64)) (pairR (sliceR (intR .i64)) nilR))))
theorem opensStP : Opens Tryz.prog 35 stP :=
  opens_struct Tryz.underlying35 (by kernel_rfl) (opensF_cons (by kernel_rfl) (by kernel_rfl) opensI64s (opensF_cons (by kernel_rfl) (by kernel_rfl) opensInt (opensF_cons (by kernel_rfl) (by kernel_rfl) opensInt (opensF_cons (by kernel_rfl) (by kernel_rfl) opensIntsE (opensF_cons (by kernel_rfl) (by kernel_rfl) opensIntsE (opensF_nil _ _))))))
/-- a state's cells -/
structure StAt (w : World) (S : Nat → Prop) (cs : Array Value) (s : St) (vv dv cv : Value) : Prop where
  cells : cs = #[vv, .int .i64 s.opn, .int .i64 s.don, dv, cv]
  vals : (sliceR (intR .i64)).one w S vv s.vals
  did : (sliceR (intR .i64)).one w S dv s.did
  cnt : (sliceR (intR .i64)).one w S cv s.cnt
  opn : ok64 s.opn
  don : ok64 s.don
theorem open_st {H : Type} {enc : TypeId × Value → H} {w : World} {fuel : Nat} {cs : Array Value} {x : DataW H × List MemPlace} (h : DataW.trod enc Tryz.prog w 0 (fun _ => true) true fuel 35 cs.toList = some x) :
    ∃ s vv dv cv, StAt w (fun b => b < w.heap.size) cs s vv dv cv := by
  obtain ⟨⟨vals, o, d, did, cnt, _⟩, h⟩ := opensStP H enc w fuel _ _ h
  obtain ⟨c0, q0, e0, h0, h⟩ := pair_inv h
  obtain ⟨c1, q1, e1, ⟨e1', h1⟩, h⟩ := pair_inv h
  obtain ⟨c2, q2, e2, ⟨e2', h2⟩, h⟩ := pair_inv h
  obtain ⟨c3, q3, e3, h3, h⟩ := pair_inv h
  obtain ⟨c4, q4, e4, h4, h⟩ := pair_inv h
  obtain rfl : q4 = [] := h
  obtain ⟨vv, rfl, h0⟩ := one_inv (r := sliceR (intR .i64)) rfl h0
  obtain ⟨dv, rfl, h3⟩ := one_inv (r := sliceR (intR .i64)) rfl h3
  obtain ⟨cv, rfl, h4⟩ := one_inv (r := sliceR (intR .i64)) rfl h4
  refine ⟨⟨vals, o, d, did, cnt⟩, vv, dv, cv, ?_, h0, h3, h4, wf_i64 h1, wf_i64 h2⟩
  apply Array.ext'
  rw [e0, e1, e2, e3, e4, e1', e2']
  rfl
end
section
open Go.RowKit

theorem opensStr : Opens Tryz.prog 9 strR := opens_string Tryz.underlying9
theorem opensBoolM : Opens Tryz.prog 4 boolR := opens_bool Tryz.underlying4
theorem opensNameInt {t : TypeId} (h : Opens Tryz.prog t (pairR strR (pairR (intR .i64) nilR))) : Opens Tryz.prog t nameIntR := opens_map h (fun p => (p.1, p.2.1)) (by
  rintro w S cs ⟨s, n, _⟩ h
  obtain ⟨c0, q0, e0, ⟨a0, h0⟩, h⟩ := pair_inv h
  obtain ⟨c1, q1, e1, ⟨a1, h1⟩, h⟩ := pair_inv h
  have h : q1 = [] := h
  exact ⟨by rw [e0, e1, a0, a1, h]; rfl, h0, wf_i64 h1⟩)
theorem opensStage : Opens Tryz.prog 100 nameIntR := opensNameInt (opens_struct Tryz.underlying100 (by kernel_rfl) (opensF_cons (by kernel_rfl) (by kernel_rfl) opensStr (opensF_cons (by kernel_rfl) (by kernel_rfl) opensInt (opensF_nil _ _))))
theorem opensRole : Opens Tryz.prog 98 nameIntR := opensNameInt (opens_struct Tryz.underlying98 (by kernel_rfl) (opensF_cons (by kernel_rfl) (by kernel_rfl) opensStr (opensF_cons (by kernel_rfl) (by kernel_rfl) opensInt (opensF_nil _ _))))
theorem opensSod : Opens Tryz.prog 104 intIntR := opens_map (r := pairR (intR .i64) (pairR (intR .i64) nilR)) (opens_struct Tryz.underlying104 (by kernel_rfl) (opensF_cons (by kernel_rfl) (by kernel_rfl) opensInt (opensF_cons (by kernel_rfl) (by kernel_rfl) opensInt (opensF_nil _ _)))) (fun p => (p.1, p.2.1)) (by
  rintro w S cs ⟨s, n, _⟩ h
  obtain ⟨c0, q0, e0, ⟨a0, h0⟩, h⟩ := pair_inv h
  obtain ⟨c1, q1, e1, ⟨a1, h1⟩, h⟩ := pair_inv h
  have h : q1 = [] := h
  exact ⟨by rw [e0, e1, a0, a1, h]; rfl, wf_i64 h0, wf_i64 h1⟩)
theorem opensSentry : Opens Tryz.prog 111 sentryR := opens_map (r := pairR boolR (pairR (intR .i64) nilR)) (opens_struct Tryz.underlying111 (by kernel_rfl) (opensF_cons (by kernel_rfl) (by kernel_rfl) opensBoolM (opensF_cons (by kernel_rfl) (by kernel_rfl) opensInt (opensF_nil _ _)))) (fun p => (p.1, p.2.1)) (by
  rintro w S cs ⟨s, n, _⟩ h
  obtain ⟨c0, q0, e0, a0, h⟩ := pair_inv h
  have a0 : c0 = [.bool s] := a0
  obtain ⟨c1, q1, e1, ⟨a1, h1⟩, h⟩ := pair_inv h
  have h : q1 = [] := h
  exact ⟨by rw [e0, e1, a0, a1, h]; rfl, wf_i64 h1⟩)
theorem opensGuard : Opens Tryz.prog 84 gdR := opens_map (r := pairR (intR .i64) (pairR (intR .i64) (pairR (sliceR instR) nilR))) (opens_struct Tryz.underlying84 (by kernel_rfl) (opensF_cons (by kernel_rfl) (by kernel_rfl) opensInt (opensF_cons (by kernel_rfl) (by kernel_rfl) opensInt (opensF_cons (by kernel_rfl) (by kernel_rfl) opensInsts (opensF_nil _ _))))) (fun p => ⟨p.1, p.2.1, p.2.2.1⟩) (by
  rintro w S cs ⟨s, n, l, _⟩ h
  obtain ⟨c0, q0, e0, ⟨a0, h0⟩, h⟩ := pair_inv h
  obtain ⟨c1, q1, e1, ⟨a1, h1⟩, h⟩ := pair_inv h
  obtain ⟨c2, q2, e2, h2, h⟩ := pair_inv h
  have h : q2 = [] := h
  obtain ⟨cv, rfl, h2⟩ := one_inv (r := sliceR instR) rfl h2
  exact ⟨cv, by rw [e0, e1, e2, a0, a1, h]; rfl, h2, wf_i64 h0, wf_i64 h1⟩)
theorem opensMile : Opens Tryz.prog 86 mlR := opens_map (r := pairR strR (pairR (intR .i64) (pairR (intR .i64) (pairR (sliceR instR) (pairR boolR nilR))))) (opens_struct Tryz.underlying86 (by kernel_rfl) (opensF_cons (by kernel_rfl) (by kernel_rfl) opensStr (opensF_cons (by kernel_rfl) (by kernel_rfl) opensInt (opensF_cons (by kernel_rfl) (by kernel_rfl) opensInt (opensF_cons (by kernel_rfl) (by kernel_rfl) opensInsts (opensF_cons (by kernel_rfl) (by kernel_rfl) opensBoolM (opensF_nil _ _))))))) (fun p => ⟨p.1, p.2.1, p.2.2.1, p.2.2.2.1, p.2.2.2.2.1⟩) (by
  rintro w S cs ⟨nm, s, n, l, b, _⟩ h
  obtain ⟨c9, q9, e9, ⟨a9, h9⟩, h⟩ := pair_inv h
  obtain ⟨c0, q0, e0, ⟨a0, h0⟩, h⟩ := pair_inv h
  obtain ⟨c1, q1, e1, ⟨a1, h1⟩, h⟩ := pair_inv h
  obtain ⟨c2, q2, e2, h2, h⟩ := pair_inv h
  obtain ⟨c3, q3, e3, a3, h⟩ := pair_inv h
  have a3 : c3 = [.bool b] := a3
  have h : q3 = [] := h
  obtain ⟨cv, rfl, h2⟩ := one_inv (r := sliceR instR) rfl h2
  exact ⟨cv, by rw [e9, e0, e1, e2, e3, a9, a0, a1, a3, h]; rfl, h2, wf_i64 h0, wf_i64 h1, h9⟩)
theorem opensEvent : Opens Tryz.prog 56 evR := opens_map (r := pairR strR (pairR (intR .i64) (pairR (intR .i64) (pairR (sliceR (intR .i64)) (pairR (intR .i64) nilR))))) (opens_struct Tryz.underlying56 (by kernel_rfl) (opensF_cons (by kernel_rfl) (by kernel_rfl) opensStr (opensF_cons (by kernel_rfl) (by kernel_rfl) opensInt (opensF_cons (by kernel_rfl) (by kernel_rfl) opensInt (opensF_cons (by kernel_rfl) (by kernel_rfl) opensIntsE (opensF_cons (by kernel_rfl) (by kernel_rfl) opensInt (opensF_nil _ _))))))) (fun p => ⟨p.1, p.2.1, p.2.2.1, p.2.2.2.1, p.2.2.2.2.1⟩) (by
  rintro w S cs ⟨nm, s, n, l, b, _⟩ h
  obtain ⟨c9, q9, e9, ⟨a9, h9⟩, h⟩ := pair_inv h
  obtain ⟨c0, q0, e0, ⟨a0, h0⟩, h⟩ := pair_inv h
  obtain ⟨c1, q1, e1, ⟨a1, h1⟩, h⟩ := pair_inv h
  obtain ⟨c2, q2, e2, h2, h⟩ := pair_inv h
  obtain ⟨c3, q3, e3, ⟨a3, h3⟩, h⟩ := pair_inv h
  have h : q3 = [] := h
  obtain ⟨cv, rfl, h2⟩ := one_inv (r := sliceR (intR .i64)) rfl h2
  exact ⟨cv, by rw [e9, e0, e1, e2, e3, a9, a0, a1, a3, h]; rfl, h2, wf_i64 h0, wf_i64 h1, wf_i64 h3, h9⟩)
abbrev modP := pairR (sliceR strR) (pairR (sliceR (intR .i64)) (pairR (sliceR strR) (pairR (sliceR nameIntR) (pairR (sliceR nameIntR) (pairR (sliceR evR) (pairR (sliceR gdR) (pairR (sliceR mlR) (pairR (sliceR intIntR) (pairR (sliceR sentryR) nilR)))))))))
set_option maxRecDepth 100000 in
theorem opensModP : Opens Tryz.prog 32 modP := opens_struct Tryz.underlying32 (by kernel_rfl) (opensF_cons (by kernel_rfl) (by kernel_rfl) (opens_slice Tryz.underlying22 (by kernel_rfl) (by decide) opensStr) (opensF_cons (by kernel_rfl) (by kernel_rfl) (opens_slice Tryz.underlying23 (by kernel_rfl) (by decide) opensI64) (opensF_cons (by kernel_rfl) (by kernel_rfl) (opens_slice Tryz.underlying22 (by kernel_rfl) (by decide) opensStr) (opensF_cons (by kernel_rfl) (by kernel_rfl) (opens_slice Tryz.underlying24 (by kernel_rfl) (by decide) opensRole) (opensF_cons (by kernel_rfl) (by kernel_rfl) (opens_slice Tryz.underlying25 (by kernel_rfl) (by decide) opensStage) (opensF_cons (by kernel_rfl) (by kernel_rfl) (opens_slice Tryz.underlying26 (by kernel_rfl) (by decide) opensEvent) (opensF_cons (by kernel_rfl) (by kernel_rfl) (opens_slice Tryz.underlying27 (by kernel_rfl) (by decide) opensGuard) (opensF_cons (by kernel_rfl) (by kernel_rfl) (opens_slice Tryz.underlying28 (by kernel_rfl) (by decide) opensMile) (opensF_cons (by kernel_rfl) (by kernel_rfl) (opens_slice Tryz.underlying29 (by kernel_rfl) (by decide) opensSod) (opensF_cons (by kernel_rfl) (by kernel_rfl) (opens_slice Tryz.underlying30 (by kernel_rfl) (by decide) opensSentry) (opensF_nil _ _)))))))))))
theorem open_mod {H : Type} {enc : TypeId × Value → H} {w : World} {fuel : Nat} {cs : Array Value} {x : DataW H × List MemPlace} (h : DataW.trod enc Tryz.prog w 0 (fun _ => true) true fuel 32 cs.toList = some x) :
    ∃ (V : MV) (m : Mod), cs = V.cells ∧ ModI w V m := by
  obtain ⟨⟨attrs, inits, users, roles, stages, events, guards, miles, sods, order, _⟩, h⟩ := opensModP H enc w fuel _ _ h
  obtain ⟨c0, q0, e0, h0, h⟩ := pair_inv h
  obtain ⟨c1, q1, e1, h1, h⟩ := pair_inv h
  obtain ⟨c2, q2, e2, h2, h⟩ := pair_inv h
  obtain ⟨c3, q3, e3, h3, h⟩ := pair_inv h
  obtain ⟨c4, q4, e4, h4, h⟩ := pair_inv h
  obtain ⟨c5, q5, e5, h5, h⟩ := pair_inv h
  obtain ⟨c6, q6, e6, h6, h⟩ := pair_inv h
  obtain ⟨c7, q7, e7, h7, h⟩ := pair_inv h
  obtain ⟨c8, q8, e8, h8, h⟩ := pair_inv h
  obtain ⟨c9, q9, e9, h9, h⟩ := pair_inv h
  obtain rfl : q9 = [] := h
  obtain ⟨v0, rfl, h0⟩ := one_inv (r := sliceR strR) rfl h0
  obtain ⟨v1, rfl, h1⟩ := one_inv (r := sliceR (intR .i64)) rfl h1
  obtain ⟨v2, rfl, h2⟩ := one_inv (r := sliceR strR) rfl h2
  obtain ⟨v3, rfl, h3⟩ := one_inv (r := sliceR nameIntR) rfl h3
  obtain ⟨v4, rfl, h4⟩ := one_inv (r := sliceR nameIntR) rfl h4
  obtain ⟨v5, rfl, h5⟩ := one_inv (r := sliceR evR) rfl h5
  obtain ⟨v6, rfl, h6⟩ := one_inv (r := sliceR gdR) rfl h6
  obtain ⟨v7, rfl, h7⟩ := one_inv (r := sliceR mlR) rfl h7
  obtain ⟨v8, rfl, h8⟩ := one_inv (r := sliceR intIntR) rfl h8
  obtain ⟨v9, rfl, h9⟩ := one_inv (r := sliceR sentryR) rfl h9
  refine ⟨⟨v0, v1, v2, v3, v4, v5, v6, v7, v8, v9⟩, ⟨attrs, inits, users, roles, stages, events, guards, miles, sods, order⟩, ?_, ⟨h0, h1, h2, h3, h4, h5, h6, h7, h8, h9⟩⟩
  apply Array.ext'
  rw [e0, e1, e2, e3, e4, e5, e6, e7, e8, e9]
  rfl
end
section
open Go.RowKit
def Into {α : Type} (r : Rep α) (f : α → List AV) : Prop := ∀ (w : World) (S : Nat → Prop) (cs : List Value) (x : α), r.at_ w S cs x → (f x).length = r.size ∧ ∀ (j : Nat) (u : Value) (av : AV), cs[j]? = some u → (f x)[j]? = some av → RT w S u av ∧ u.oneCell' = true
theorem Into.slice {α : Type} {r : Rep α} {f : α → List AV} (h : Into r f) {w : World} {S : Nat → Prop} {v : Value} {l : List α} (hv : (sliceR r).one w S v l) : RT w S v (.sl r.size (l.map f)) := by
  obtain ⟨A, c, rfl, h1, h2⟩ := slice_form hv
  by_cases h0 : 0 < l.length
  · obtain ⟨b, o, rfl, hb, hrow⟩ := slice_some hv h0
    classical
    let cs : Nat → List Value := fun i => if hi : i < l.length then (hrow i hi).choose else []
    have hcs : ∀ i (hi : i < l.length), (∀ (j : Nat) (u : Value), (cs i)[j]? = some u → w.cell? ⟨b, o + i * r.size + j, none⟩ = some u) ∧ r.at_ w S (cs i) l[i] := fun i hi => by
      have := (hrow i hi).choose_spec
      simpa [cs, hi] using this
    have key : ∀ (i j : Nat) (row : List AV) (av : AV), (l.map f)[i]? = some row → row[j]? = some av → ∃ hi : i < l.length, (cs i)[j]? = some ((cs i).getD j undef) ∧ RT w S ((cs i).getD j undef) av ∧ ((cs i).getD j undef).oneCell' = true := fun i j row av h3 h4 => by
      have hi : i < l.length := by
        have := (List.getElem?_eq_some_iff.1 h3).1
        simpa using this
      have hf : row = f l[i] := by
        rw [List.getElem?_map, List.getElem?_eq_getElem hi] at h3
        exact (Option.some.inj h3).symm
      subst hf
      obtain ⟨h5, h6⟩ := h w S (cs i) l[i] (hcs i hi).2
      have hj : j < (cs i).length := by
        rw [r.len (hcs i hi).2, ← h5]
        exact (List.getElem?_eq_some_iff.1 h4).1
      have e : (cs i)[j]? = some ((cs i).getD j undef) := by
        rw [List.getD_eq_getElem?_getD, List.getElem?_eq_getElem hj]
        rfl
      exact ⟨hi, e, h6 j _ av e h4⟩
    refine .sl _ _ c r.size _ b o (fun i j => (cs i).getD j undef) (by simp) h1 h2 (fun _ => ⟨rfl, hb⟩) (fun row hr => ?_) (fun _ i j row av h3 h4 => ?_) (fun i j row av h3 h4 => (key i j row av h3 h4).elim fun _ h => h.2.2) (fun i j row av h3 h4 => (key i j row av h3 h4).elim fun _ h => h.2.1)
    · obtain ⟨i, hi, rfl⟩ := List.getElem_of_mem hr
      have hi : i < l.length := by simpa using hi
      simp only [List.getElem_map]
      exact (h w S (cs i) l[i] (hcs i hi).2).1
    · obtain ⟨hi, h5, _⟩ := key i j row av h3 h4
      exact (hcs i hi).1 j _ h5
  · have : l = [] := List.length_eq_zero_iff.1 (by omega)
    subst this
    exact .sl A 0 c r.size [] 0 0 (fun _ _ => undef) rfl h1 h2 (fun h => by omega) (by simp) (fun h => by omega) (by simp) (by simp)
theorem into_cells {α : Type} {r : Rep α} {f : α → List AV} (g : α → List Value) (hg : ∀ w S cs x, r.at_ w S cs x → cs = g x) (hs : ∀ x, (g x).length = r.size) (ho : ∀ x u, u ∈ g x → u.oneCell' = true) (hf : ∀ x, f x = (g x).map .c) : Into r f := fun w S cs x h => by
  obtain rfl := hg w S cs x h
  rw [hf]
  refine ⟨by simp [hs], fun j u av h1 h2 => ?_⟩
  rw [List.getElem?_map, h1] at h2
  cases h2
  exact ⟨.c u, ho x u (List.mem_of_getElem? h1)⟩
theorem into_str : Into strR (fun s => [eS s]) := into_cells (fun s => [.string s]) (fun w S cs x h => h.1) (fun x => rfl) (fun x u h => by simp at h; subst h; rfl) (fun x => rfl)
theorem into_int : Into (intR .i64) (fun n => [eI n]) := into_cells (fun n => [.int .i64 n]) (fun w S cs x h => h.1) (fun x => rfl) (fun x u h => by simp at h; subst h; rfl) (fun x => rfl)
theorem into_ni : Into nameIntR eNI := into_cells (fun p => [.string p.1, .int .i64 p.2]) (fun w S cs x h => h.1) (fun x => rfl) (fun x u h => by simp at h; rcases h with rfl | rfl <;> rfl) (fun x => rfl)
theorem into_ii : Into intIntR eII := into_cells (fun p => [.int .i64 p.1, .int .i64 p.2]) (fun w S cs x h => h.1) (fun x => rfl) (fun x u h => by simp at h; rcases h with rfl | rfl <;> rfl) (fun x => rfl)
theorem into_bi : Into sentryR eBI := into_cells (fun p => [.bool p.1, .int .i64 p.2]) (fun w S cs x h => h.1) (fun x => rfl) (fun x u h => by simp at h; rcases h with rfl | rfl <;> rfl) (fun x => rfl)
theorem into_inst : Into instR eInst := into_cells Inst.cells (fun w S cs x h => h.1) (fun x => rfl) (fun x u h => by simp [Inst.cells] at h; rcases h with rfl | rfl | rfl | rfl | rfl | rfl | rfl <;> rfl) (fun x => rfl)
theorem slice_one {α : Type} {r : Rep α} {w : World} {S : Nat → Prop} {v : Value} {l : List α} (h : (sliceR r).one w S v l) : v.oneCell' = true := by
  obtain ⟨A, c, rfl, _⟩ := slice_form h
  rfl
theorem into_gd : Into gdR eGd := fun w S cs x ⟨cv, h1, h2, _⟩ => by
  subst h1
  refine ⟨rfl, fun j u av h3 h4 => ?_⟩
  match j with
  | 0 => simp at h3 h4; subst h3; subst h4; exact ⟨.c _, rfl⟩
  | 1 => simp at h3 h4; subst h3; subst h4; exact ⟨.c _, rfl⟩
  | 2 => simp at h3 h4; subst h3; subst h4; exact ⟨into_inst.slice h2, slice_one h2⟩
  | j + 3 => simp at h3
theorem into_ml : Into mlR eMl := fun w S cs x ⟨cv, h1, h2, _⟩ => by
  subst h1
  refine ⟨rfl, fun j u av h3 h4 => ?_⟩
  match j with
  | 0 => simp at h3 h4; subst h3; subst h4; exact ⟨.c _, rfl⟩
  | 1 => simp at h3 h4; subst h3; subst h4; exact ⟨.c _, rfl⟩
  | 2 => simp at h3 h4; subst h3; subst h4; exact ⟨.c _, rfl⟩
  | 3 => simp at h3 h4; subst h3; subst h4; exact ⟨into_inst.slice h2, slice_one h2⟩
  | 4 => simp at h3 h4; subst h3; subst h4; exact ⟨.c _, rfl⟩
  | j + 5 => simp at h3
theorem into_ev : Into evR eEv := fun w S cs x ⟨cv, h1, h2, _⟩ => by
  subst h1
  refine ⟨rfl, fun j u av h3 h4 => ?_⟩
  match j with
  | 0 => simp at h3 h4; subst h3; subst h4; exact ⟨.c _, rfl⟩
  | 1 => simp at h3 h4; subst h3; subst h4; exact ⟨.c _, rfl⟩
  | 2 => simp at h3 h4; subst h3; subst h4; exact ⟨.c _, rfl⟩
  | 3 => simp at h3 h4; subst h3; subst h4; exact ⟨into_int.slice h2, slice_one h2⟩
  | 4 => simp at h3 h4; subst h3; subst h4; exact ⟨.c _, rfl⟩
  | j + 5 => simp at h3
theorem rt_mod {w : World} {V : MV} {m : Mod} (h : ModI w V m) : RT w (fun b => b < w.heap.size) (.agg V.cells) (.agg (eMod m)) := by
  refine .agg _ _ rfl fun j u av h1 h2 => ?_
  match j with
  | 0 => simp [MV.cells] at h1 h2; subst h1; subst h2; exact into_str.slice h.attrs
  | 1 => simp [MV.cells] at h1 h2; subst h1; subst h2; exact into_int.slice h.inits
  | 2 => simp [MV.cells] at h1 h2; subst h1; subst h2; exact into_str.slice h.users
  | 3 => simp [MV.cells] at h1 h2; subst h1; subst h2; exact into_ni.slice h.roles
  | 4 => simp [MV.cells] at h1 h2; subst h1; subst h2; exact into_ni.slice h.stages
  | 5 => simp [MV.cells] at h1 h2; subst h1; subst h2; exact into_ev.slice h.events
  | 6 => simp [MV.cells] at h1 h2; subst h1; subst h2; exact into_gd.slice h.guards
  | 7 => simp [MV.cells] at h1 h2; subst h1; subst h2; exact into_ml.slice h.miles
  | 8 => simp [MV.cells] at h1 h2; subst h1; subst h2; exact into_ii.slice h.sods
  | 9 => simp [MV.cells] at h1 h2; subst h1; subst h2; exact into_bi.slice h.order
  | j + 10 => simp at h2
theorem rt_st {w : World} {S : Nat → Prop} {cs : Array Value} {s : St} {vv dv cv : Value} (h : StAt w S cs s vv dv cv) : RT w S (.agg cs) (.agg (eSt s)) := by
  obtain ⟨rfl, h2, h3, h4, _, _⟩ := h
  refine .agg _ _ rfl fun j u av h5 h6 => ?_
  match j with
  | 0 => simp at h5 h6; subst h5; subst h6; exact into_int.slice h2
  | 1 => simp at h5 h6; subst h5; subst h6; exact .c _
  | 2 => simp at h5 h6; subst h5; subst h6; exact .c _
  | 3 => simp at h5 h6; subst h5; subst h6; exact into_int.slice h3
  | 4 => simp at h5 h6; subst h5; subst h6; exact into_int.slice h4
  | j + 5 => simp at h5
/-- every thing of a slice is one that may be -/
theorem slice_all {α : Type} {r : Rep α} {w : World} {S : Nat → Prop} {v : Value} {l : List α} {Q : α → Prop} (h : (sliceR r).one w S v l) (hq : ∀ cs x, r.at_ w S cs x → Q x) : ∀ x ∈ l, Q x := fun x hx => by
  obtain ⟨i, hi, rfl⟩ := List.getElem_of_mem hx
  obtain ⟨A, c, rfl, _⟩ := slice_form h
  obtain ⟨b, o, rfl, _, hrow⟩ := slice_some h (by omega)
  obtain ⟨cs, _, h2⟩ := hrow i hi
  exact hq cs _ h2
theorem mod_conds {w : World} {V : MV} {m : Mod} (h : ModI w V m) : condOk m :=
  ⟨slice_all h.guards fun cs x ⟨cv, _, h2, _⟩ => slice_all h2 fun cs y h3 => h3.2, slice_all h.miles fun cs x ⟨cv, _, h2, _⟩ => slice_all h2 fun cs y h3 => h3.2⟩
theorem mod_pars {w : World} {V : MV} {m : Mod} (h : ModI w V m) : ∀ p ∈ m.stages, ok64 p.2 := slice_all h.stages fun cs x h2 => h2.2.2
theorem st_vals {w : World} {S : Nat → Prop} {cs : Array Value} {s : St} {vv dv cv : Value} (h : StAt w S cs s vv dv cv) : ∀ x ∈ s.vals, ok64 x := slice_all h.vals fun cs x h2 => wf_i64 h2.2
end
end Go.Proofs.YtmcegfoaceilgaaGreat
