/-
  Parts of the proof: D4.
-/
import Derived.Test.YtmcegfoaceilgaaGreatNof8
set_option linter.unusedVariables false
set_option linter.unusedSimpArgs false
namespace Go.Proofs.YtmcegfoaceilgaaGreat
section
open Go.RowKit
set_option maxRecDepth 100000 in
set_option maxHeartbeats 4000000 in
theorem holds16_A (l : List Inst) (s : St) (hl : l.length ≤ 1000000) (ho : ok64 s.opn) (hd : ok64 s.don) : ADet Tryz.prog 115 [sInsts l, .agg (eSt s)] ⟨.tup [eB (optB (holdsO l s)), eI (optE (holdsO l s))], [], 0⟩ := by
  refine adet_of_code mixedT Tryz.func115 rfl (by decide) Tryz.ntmps115 Tryz.results115 rfl (⟨fun id o h => (by cases h), ⟨trivial, trivial, trivial⟩⟩) ?_
  by_cases hc : checkE (l.map Inst.op) = 0 ∧ ∀ x ∈ l, askOk s.vals true x = true
  · have hck := check16_A l s true hl true (by simp only [true_iff]; exact hc)
    obtain ⟨b, h1, h2⟩ := holdsO_some hc.1 hc.2
    have hlen : 0 < l.length ∧ l.length ≤ 64 := by
      have := hc.1
      unfold checkE at this
      simp only [List.length_map] at this
      split at this
      · cases this
      · split at this
        · cases this
        · omega
    have ht : (l.map Inst.op).take 70 = l.map Inst.op := List.take_of_length_le (by simp; omega)
    have hsh := shapeR_A l hl
    rw [ht] at hsh
    have ew : IntKind.i64.wrap ((l.length : Int) - 1) = ((l.length - 1 : Nat) : Int) := by rw [wrap_in (by omega) (by omega)]; omega
    have hat := at16_A l s (by omega) ho hd (l.length) (l.length - 1) (by omega) b [] (by omega) (by rw [show l.length - 1 + 1 = l.length by omega, List.take_length]; exact h1)
    (repeat' (first | simp (maxSteps := 5000000) (implicitDefEqProofs := false) only [ruA, ruB, aEv, aTake, aLoad, ASt.get, aget, ASt.put, aBox, aCells, oneC, oneCL, Value.oneCell', envOf, ↓reduceIte, reduceCtorEq, Nat.reduceLT, Nat.reduceEqDiff, Nat.reduceAdd, eq_self, tyA_35, tyS_35] | (with_reducible refine aIf_split (fun _ => ?_) (fun _ => ?_)) | (with_reducible refine aSel_split (fun _ => ?_) (fun _ => ?_)) | (with_reducible refine aGd_split (fun _ => ?_) (fun _ => ?_))))
    refine callV hck ?_
    (repeat' (first | simp (maxSteps := 5000000) (implicitDefEqProofs := false) only [ruA, ruB, aEv, aUn, un1, ASt.get, aget, ASt.put, ↓reduceIte, Nat.reduceLT, eq_self] | (with_reducible refine aIf_split (fun _ => ?_) (fun _ => ?_)) | (with_reducible refine aSel_split (fun _ => ?_) (fun _ => ?_)) | (with_reducible refine aGd_split (fun _ => ?_) (fun _ => ?_))))
    refine aDraw_held [] [0, 1, 3, 4, 5, 6] (.exec 2 (.exec 7 (.exec 8 (.exec 9 .done)))) (by kernel_rfl) (by simp) ?_
    (repeat' (first | simp (maxSteps := 5000000) (implicitDefEqProofs := false) only [ruA, ruB, aEv, aTake, aLoad, aLen, aBin, bin2, ASt.get, aget, ASt.put, ↓reduceIte, reduceCtorEq, Nat.reduceLT, Nat.reduceEqDiff, Nat.reduceAdd, eq_self, ne_eq, aTakes, aFrom, tyA_35, tyS_35, tyE_82, ew] | (with_reducible refine aIf_split (fun _ => ?_) (fun _ => ?_)) | (with_reducible refine aSel_split (fun _ => ?_) (fun _ => ?_)) | (with_reducible refine aGd_split (fun _ => ?_) (fun _ => ?_))))
    refine callO hsh (.inr items_plain) ?_
    (repeat' (first | simp (maxSteps := 5000000) (implicitDefEqProofs := false) only [ruA, ruB, aEv, ASt.get, aget, ASt.put, ↓reduceIte, Nat.reduceLT, Nat.reduceEqDiff, Nat.reduceAdd, eq_self] | (with_reducible refine aIf_split (fun _ => ?_) (fun _ => ?_)) | (with_reducible refine aSel_split (fun _ => ?_) (fun _ => ?_)) | (with_reducible refine aGd_split (fun _ => ?_) (fun _ => ?_))))
    refine callV (by exact hat) ?_
    (repeat' (first | simp (maxSteps := 5000000) (implicitDefEqProofs := false) only [ruA, ruB, aEv, ASt.get, aget, ASt.put, aResL, aOne, ↓reduceIte, Nat.reduceLT, Nat.reduceEqDiff, eq_self] | (with_reducible refine aIf_split (fun _ => ?_) (fun _ => ?_)) | (with_reducible refine aSel_split (fun _ => ?_) (fun _ => ?_)) | (with_reducible refine aGd_split (fun _ => ?_) (fun _ => ?_))))
    exact gives_tree (by rw [h2]; rfl)
  · have hck := check16_A l s true hl false (by simp only [Bool.false_eq_true, false_iff]; exact hc)
    (repeat' (first | simp (maxSteps := 5000000) (implicitDefEqProofs := false) only [ruA, ruB, aEv, aTake, aLoad, ASt.get, aget, ASt.put, aBox, aCells, oneC, oneCL, Value.oneCell', envOf, ↓reduceIte, reduceCtorEq, Nat.reduceLT, Nat.reduceEqDiff, Nat.reduceAdd, eq_self, tyA_35, tyS_35] | (with_reducible refine aIf_split (fun _ => ?_) (fun _ => ?_)) | (with_reducible refine aSel_split (fun _ => ?_) (fun _ => ?_)) | (with_reducible refine aGd_split (fun _ => ?_) (fun _ => ?_))))
    refine callV hck ?_
    (repeat' (first | simp (maxSteps := 5000000) (implicitDefEqProofs := false) only [ruA, ruB, aEv, aUn, un1, ASt.get, aget, ASt.put, aResL, aOne, ↓reduceIte, Nat.reduceLT, Nat.reduceEqDiff, eq_self] | (with_reducible refine aIf_split (fun _ => ?_) (fun _ => ?_)) | (with_reducible refine aSel_split (fun _ => ?_) (fun _ => ?_)) | (with_reducible refine aGd_split (fun _ => ?_) (fun _ => ?_))))
    exact gives_tree (by rw [holdsO_none hc]; rfl)
set_option maxRecDepth 100000 in
theorem parR_A (m : Mod) (hl : m.stages.length ≤ 1000000) : ADet Tryz.prog 37 [.agg (eMod m)] (own 3 1 ((pars m).map fun n => [eI n])) := by
  refine adet_of_code mixedT Tryz.func37 rfl (by decide) Tryz.ntmps37 Tryz.results37 rfl (own_ok _ _ _) ?_
  (repeat' (first | simp (maxSteps := 5000000) (implicitDefEqProofs := false) only [ruA, ruB, aEv, ASt.get, aget, ASt.put, aBox, aCells, oneC, oneCL, envOf, ↓reduceIte, Nat.reduceLT, eq_self] | (with_reducible refine aIf_split (fun _ => ?_) (fun _ => ?_)) | (with_reducible refine aSel_split (fun _ => ?_) (fun _ => ?_)) | (with_reducible refine aGd_split (fun _ => ?_) (fun _ => ?_))))
  refine aLoop_of (fun st => ∃ k : Nat, k ≤ m.stages.length ∧ st = ⟨22, [(1, .op 0 0 0), (3, .osl 1), (4, eI (k : Int))], [(0, some (.box 32 (eMod m))), (1, some (.row 3 1 ((m.stages.take k).map fun p => [eI p.2])))], 2⟩) (fun st => m.stages.length - slotN st 4) ⟨_, ((weak_nil 3 3 1 (by simp only [ASt.get, aget, ↓reduceIte, Nat.reduceLT, Nat.reduceEqDiff, eq_self])).trans (weak_ren1 [0, 1] ⟨(by decide), (by (first | ((simp only [envInR, tabInR, envLt, tabLt, AObj.lt, AV.lt, AV.ltL, AV.ren, AV.renL, AObj.ren, List.getD_cons_zero, List.getD_cons_succ, List.length_cons, List.length_nil, ruW, ASt.get, aget, ↓reduceIte, reduceCtorEq, Nat.reduceLT, Nat.reduceEqDiff, Nat.reduceAdd, eq_self, List.take_zero]) <;> (repeat' apply And.intro) <;> first | (rw [wrapK (by omega)]; done) | (simp; done) | omega) | fail))⟩)), 0, Nat.zero_le _, rfl⟩ ?_
  rintro _ ⟨k, hk, rfl⟩
  by_cases hlt : k < m.stages.length
  · have et : (m.stages.take (k + 1)).map (fun p => [eI p.2]) = (m.stages.take k).map (fun p => [eI p.2]) ++ [[eI m.stages[k].2]] := take_snoc _ _ hlt
    (repeat' (first | simp (maxSteps := 5000000) (implicitDefEqProofs := false) only [ruA, ruB, aEv, aTake, aLoad, aField, aIndex, aLen, aBin, bin2, ASt.get, aget, ASt.put, aAppend, aBuildSlice, aCells, oneC, oneCL, treeC, treeL, aLit, aDst, aSrc, appTab, Value.cells, Value.oneCell', ↓reduceIte, reduceCtorEq, Nat.reduceLT, Nat.reduceEqDiff, Nat.reduceAdd, Nat.reduceMul, Nat.reduceLeDiff, eq_self, ne_eq, aBuildSlice1, frzs, ownIds, tyF_32_4, tyA_25, tyS_25, tyE_25, tyF_100_1, tyA_3, tyS_3, tyR_33, row_at, hlt] | (with_reducible refine aIf_split (fun _ => ?_) (fun _ => ?_)) | (with_reducible refine aSel_split (fun _ => ?_) (fun _ => ?_)) | (with_reducible refine aGd_split (fun _ => ?_) (fun _ => ?_))))
    refine ⟨rfl, by simp only [List.length_take]; omega, roundI (weak_ren1 [0, 3] ⟨(by decide), (by (first | ((simp only [envInR, tabInR, envLt, tabLt, AObj.lt, AV.lt, AV.ltL, AV.ren, AV.renL, AObj.ren, List.getD_cons_zero, List.getD_cons_succ, List.length_cons, List.length_nil, ruW, ASt.get, aget, ↓reduceIte, reduceCtorEq, Nat.reduceLT, Nat.reduceEqDiff, Nat.reduceAdd, eq_self, et]) <;> (repeat' apply And.intro) <;> first | (rw [wrapK (by omega)]; done) | (simp; done) | omega) | fail))⟩) ⟨k + 1, by omega, rfl⟩ (by simp only [slotN, ruW, ASt.get, aget, ↓reduceIte, Nat.reduceLT, Nat.reduceEqDiff, eq_self]; omega)⟩
  · obtain rfl : k = m.stages.length := by omega
    (repeat' (first | simp (maxSteps := 5000000) (implicitDefEqProofs := false) only [ruA, ruB, aEv, aTake, aLoad, aField, aLen, aBin, bin2, ASt.get, aget, ASt.put, aResL, aOne, ↓reduceIte, reduceCtorEq, Nat.reduceLT, Nat.reduceEqDiff, Nat.reduceAdd, Nat.reduceLeDiff, eq_self, ne_eq, tyF_32_4, tyA_25, tyS_25, tyE_25, hlt] | (with_reducible refine aIf_split (fun _ => ?_) (fun _ => ?_)) | (with_reducible refine aSel_split (fun _ => ?_) (fun _ => ?_)) | (with_reducible refine aGd_split (fun _ => ?_) (fun _ => ?_))))
    exact aGives_own (by simp [ATab.get_cons, pars])
theorem isR_A (l : List Int) (a i : Int) (hl : l.length ≤ 1073741824) (ho : ∀ x ∈ l, ok64 x) : ADet Tryz.prog 64 [sI l, eI a, eI i] (val (.bool (decide (isL l a i)))) :=
  adet_of_calls (enters_of Tryz.func64 rfl (by decide)) fun S w vs hS hn hv => by
    obtain ⟨v, v1, v2, rfl⟩ : ∃ v v1 v2, vs = #[v, v1, v2] := ⟨vs[0]'(by simp at hn; omega), vs[1]'(by simp at hn; omega), vs[2]'(by simp at hn; omega), by
      apply Array.ext
      · simpa using hn
      · intro i h1 h2
        simp at h2
        match i, h2 with
        | 0, _ => rfl
        | 1, _ => rfl
        | 2, _ => rfl⟩
    obtain rfl := rtc (hv 1 v1 _ rfl rfl)
    obtain rfl := rtc (hv 2 v2 _ rfl rfl)
    exact (is_any l v a i w hl (rt_ints (hv 0 v _ rfl rfl) hS ho)).mono fun e w' ⟨h1, h2⟩ => ⟨h1, h2 ▸ Below.refl _ _⟩
theorem in18_A (n most : Int) : ADet Tryz.prog 114 [eI n, eI most] (val (.bool (inB n most))) := by
  refine adet_of_code mixedT Tryz.func114 rfl (by decide) Tryz.ntmps114 Tryz.results114 rfl (val_ok _) ?_
  unfold inB
  (repeat' (first | simp (maxSteps := 5000000) (implicitDefEqProofs := false) only [ruA, ruB, aEv, aBin, bin2, ASt.get, aget, ASt.put, envOf, aResL, aOne, ↓reduceIte, reduceCtorEq, Nat.reduceLT, Nat.reduceEqDiff, eq_self] | (with_reducible refine aIf_split (fun _ => ?_) (fun _ => ?_)) | (with_reducible refine aSel_split (fun _ => ?_) (fun _ => ?_)) | (with_reducible refine aGd_split (fun _ => ?_) (fun _ => ?_))))
  all_goals (rename_i h; rw [h]; simp)
set_option maxRecDepth 100000 in
set_option maxHeartbeats 8000000 in
theorem fires18_A (m : Mod) (s : St) (xm : Bool) (xn event : Int) (hf : Fit m) (ho : ok64 s.opn) (hd : ok64 s.don) : ADet Tryz.prog 91 [.agg (eMod m), .agg (eSt s), .agg [eB xm, eI xn], eI event] (val (.bool (firesM m s (xm, xn) event))) := by
  refine adet_of_code mixedT Tryz.func91 rfl (by decide) Tryz.ntmps91 Tryz.results91 rfl (val_ok _) ?_
  obtain ⟨hgl, hml, hsl, -⟩ := id hf.sizes
  cases xm with
  | true =>
    by_cases hin : 0 ≤ xn ∧ xn < (m.miles.length : Int)
    · obtain ⟨k, rfl⟩ : ∃ k : Nat, xn = (k : Int) := ⟨xn.toNat, by omega⟩
      have hk : k < m.miles.length := by omega
      have ei : inB (k : Int) (m.miles.length : Int) = true := by simp [inB]; omega
      have eR : firesM m s (true, (k : Int)) event = (inB m.miles[k].stage m.stages.length && ((m.miles[k].event == -1) || (m.miles[k].event == event)) && hasB s.opn m.miles[k].stage && optB (holdsO m.miles[k].cond s)) := by
        simp [firesM, readyM, sentryM, hk, inS, inB, Bool.and_assoc]
      rw [eR]
      have hho := holds16_A m.miles[k].cond s (by have := hf.miles _ (List.getElem_mem hk); omega) ho hd
      (repeat' (first | simp (maxSteps := 5000000) (implicitDefEqProofs := false) only [ruA, ruB, aEv, aTake, aLoad, aField, aLen, ASt.get, aget, ASt.put, aBox, aCells, oneC, oneCL, Value.oneCell', envOf, ↓reduceIte, reduceCtorEq, Nat.reduceLT, Nat.reduceEqDiff, Nat.reduceAdd, Nat.reduceLeDiff, eq_self, ne_eq, tyF_111_0, tyA_4, tyS_4, tyF_111_1, tyA_3, tyS_3, tyF_32_7, tyA_28, tyS_28, tyE_28] | (with_reducible refine aIf_split (fun _ => ?_) (fun _ => ?_)) | (with_reducible refine aSel_split (fun _ => ?_) (fun _ => ?_)) | (with_reducible refine aGd_split (fun _ => ?_) (fun _ => ?_))))
      refine callV (in18_A _ _) ?_
      (repeat' (first | simp (maxSteps := 5000000) (implicitDefEqProofs := false) only [ruA, ruB, aEv, aTake, aLoad, aField, aIndex, aUn, un1, ASt.get, aget, ASt.put, aStore, aBox, aCells, oneC, oneCL, Value.cells, Value.oneCell', ↓reduceIte, reduceCtorEq, Nat.reduceLT, Nat.reduceEqDiff, Nat.reduceAdd, Nat.reduceLeDiff, eq_self, tyF_111_1, tyA_3, tyS_3, tyF_32_7, tyA_28, tyS_28, tyE_28, tyA_86, tyS_86, tyZ_86, tyF_86_3, tyA_82, tyS_82, tyA_35, tyS_35, row_at, hk, ei] | (with_reducible refine aIf_split (fun _ => ?_) (fun _ => ?_)) | (with_reducible refine aSel_split (fun _ => ?_) (fun _ => ?_)) | (with_reducible refine aGd_split (fun _ => ?_) (fun _ => ?_))))
      refine callT hho (.inl (by simp [roL, roA, treeL, treeC])) ?_
      (repeat' (first | simp (maxSteps := 5000000) (implicitDefEqProofs := false) only [ruA, ruB, aEv, aTake, aLoad, aField, aLen, aExtract, ASt.get, aget, ASt.put, ↓reduceIte, reduceCtorEq, Nat.reduceLT, Nat.reduceEqDiff, Nat.reduceAdd, Nat.reduceLeDiff, eq_self, ne_eq, AV.shift, AV.shiftL, tyA_3, tyS_3, tyF_86_1, tyF_32_4, tyA_25, tyS_25, tyE_25] | (with_reducible refine aIf_split (fun _ => ?_) (fun _ => ?_)) | (with_reducible refine aSel_split (fun _ => ?_) (fun _ => ?_)) | (with_reducible refine aGd_split (fun _ => ?_) (fun _ => ?_))))
      refine callV (in18_A _ _) ?_
      (repeat' (first | simp (maxSteps := 5000000) (implicitDefEqProofs := false) only [ruA, ruB, aEv, aTake, aLoad, aField, aBin, bin2, ASt.get, aget, ASt.put, aResL, aOne, ↓reduceIte, reduceCtorEq, Nat.reduceLT, Nat.reduceEqDiff, Nat.reduceAdd, Nat.reduceLeDiff, eq_self, tyA_3, tyS_3, tyF_86_1, tyF_86_2, tyF_35_1] | (with_reducible refine aIf_split (fun _ => ?_) (fun _ => ?_)) | (with_reducible refine aSel_split (fun _ => ?_) (fun _ => ?_)) | (with_reducible refine aGd_split (fun _ => ?_) (fun _ => ?_))))
      all_goals first
        | (simp [*]; done)
        | (refine callV (hasR_A _ _ ho) ?_; (repeat' (first | simp (maxSteps := 5000000) (implicitDefEqProofs := false) only [ruA, ruB, aEv, ASt.get, aget, ASt.put, aResL, aOne, ↓reduceIte, Nat.reduceLT, Nat.reduceEqDiff, eq_self] | (with_reducible refine aIf_split (fun _ => ?_) (fun _ => ?_)) | (with_reducible refine aSel_split (fun _ => ?_) (fun _ => ?_)) | (with_reducible refine aGd_split (fun _ => ?_) (fun _ => ?_)))); all_goals (simp [*]; done))
    · have ei : inB xn (m.miles.length : Int) = false := by unfold inB; rw [Bool.and_eq_false_iff]; simp only [decide_eq_false_iff_not]; omega
      have eR : firesM m s (true, xn) event = false := by
        have : sentryM m (true, xn) = none := by
          simp only [sentryM, if_true]
          split
          · rw [List.getElem?_eq_none (by omega)]; try rfl
          · rfl
        simp [firesM, readyM, this]
      rw [eR]
      (repeat' (first | simp (maxSteps := 5000000) (implicitDefEqProofs := false) only [ruA, ruB, aEv, aTake, aLoad, aField, aLen, ASt.get, aget, ASt.put, aBox, aCells, oneC, oneCL, Value.oneCell', envOf, ↓reduceIte, reduceCtorEq, Nat.reduceLT, Nat.reduceEqDiff, Nat.reduceAdd, Nat.reduceLeDiff, eq_self, ne_eq, tyF_111_0, tyA_4, tyS_4, tyF_111_1, tyA_3, tyS_3, tyF_32_7, tyA_28, tyS_28, tyE_28] | (with_reducible refine aIf_split (fun _ => ?_) (fun _ => ?_)) | (with_reducible refine aSel_split (fun _ => ?_) (fun _ => ?_)) | (with_reducible refine aGd_split (fun _ => ?_) (fun _ => ?_))))
      refine callV (in18_A _ _) ?_
      (repeat' (first | simp (maxSteps := 5000000) (implicitDefEqProofs := false) only [ruA, ruB, aEv, aUn, un1, ASt.get, aget, ASt.put, aResL, aOne, ↓reduceIte, Nat.reduceLT, eq_self, ei] | (with_reducible refine aIf_split (fun _ => ?_) (fun _ => ?_)) | (with_reducible refine aSel_split (fun _ => ?_) (fun _ => ?_)) | (with_reducible refine aGd_split (fun _ => ?_) (fun _ => ?_))))
  | false =>
    by_cases hin : 0 ≤ xn ∧ xn < (m.guards.length : Int)
    · obtain ⟨k, rfl⟩ : ∃ k : Nat, xn = (k : Int) := ⟨xn.toNat, by omega⟩
      have hk : k < m.guards.length := by omega
      have ei : inB (k : Int) (m.guards.length : Int) = true := by simp [inB]; omega
      have hho := holds16_A m.guards[k].cond s (by have := hf.guards _ (List.getElem_mem hk); omega) ho hd
      by_cases hst : 0 ≤ m.guards[k].stage ∧ m.guards[k].stage < (m.stages.length : Int)
      · obtain ⟨q, hq⟩ : ∃ q : Nat, m.guards[k].stage = (q : Int) := ⟨m.guards[k].stage.toNat, by omega⟩
        have hql : q < m.stages.length := by omega
        have es : inB (q : Int) (m.stages.length : Int) = true := by simp [inB]; omega
        have eR : firesM m s (false, (k : Int)) event = (((m.guards[k].event == -1) || (m.guards[k].event == event)) && !hasB s.opn q && ((m.stages[q].2 == -1) || (inB m.stages[q].2 m.stages.length && hasB s.opn m.stages[q].2)) && optB (holdsO m.guards[k].cond s)) := by
          have hno : ∀ p : Int, (decide (p < (m.stages.length : Int)) && hasB s.opn p) = (inB p m.stages.length && hasB s.opn p) := fun p => by
            by_cases h0 : 0 ≤ p
            · simp [inB, h0]
            · rw [hasB_out _ _ (by omega)]
              simp
          simp [firesM, readyM, sentryM, hk, inS, hq, aboveM, hql, hno]
        rw [eR]
        (repeat' (first | simp (maxSteps := 5000000) (implicitDefEqProofs := false) only [ruA, ruB, aEv, aTake, aLoad, aField, ASt.get, aget, ASt.put, aBox, aCells, oneC, oneCL, Value.oneCell', envOf, ↓reduceIte, reduceCtorEq, Nat.reduceLT, Nat.reduceEqDiff, Nat.reduceAdd, Nat.reduceLeDiff, eq_self, tyF_111_0, tyA_4, tyS_4] | (with_reducible refine aIf_split (fun _ => ?_) (fun _ => ?_)) | (with_reducible refine aSel_split (fun _ => ?_) (fun _ => ?_)) | (with_reducible refine aGd_split (fun _ => ?_) (fun _ => ?_))))
        refine aDraw_quiet (by kernel_rfl) ?_
        (repeat' (first | simp (maxSteps := 5000000) (implicitDefEqProofs := false) only [ruA, ruB, aEv, aTake, aLoad, aField, aLen, aUn, un1, ASt.get, aget, ASt.put, ↓reduceIte, reduceCtorEq, Nat.reduceLT, Nat.reduceEqDiff, Nat.reduceAdd, Nat.reduceLeDiff, eq_self, ne_eq, dref, tyF_111_1, tyA_3, tyS_3, tyF_32_6, tyA_27, tyS_27, tyE_27] | (with_reducible refine aIf_split (fun _ => ?_) (fun _ => ?_)) | (with_reducible refine aSel_split (fun _ => ?_) (fun _ => ?_)) | (with_reducible refine aGd_split (fun _ => ?_) (fun _ => ?_))))
        refine callD (in18_A _ _) ?_
        (repeat' (first | simp (maxSteps := 5000000) (implicitDefEqProofs := false) only [ruA, ruB, aEv, aTake, aLoad, aField, aIndex, aLen, aUn, un1, ASt.get, aget, ASt.put, ↓reduceIte, reduceCtorEq, Nat.reduceLT, Nat.reduceEqDiff, Nat.reduceAdd, Nat.reduceLeDiff, eq_self, ne_eq, dref, tyF_111_1, tyA_3, tyS_3, tyF_32_4, tyA_25, tyS_25, tyE_25, tyF_32_6, tyA_27, tyS_27, tyE_27, tyF_84_0, row_at, hk, ei] | (with_reducible refine aIf_split (fun _ => ?_) (fun _ => ?_)) | (with_reducible refine aSel_split (fun _ => ?_) (fun _ => ?_)) | (with_reducible refine aGd_split (fun _ => ?_) (fun _ => ?_))))
        refine callD (in18_A _ _) ?_
        rw [hq]
        (repeat' (first | simp (maxSteps := 5000000) (implicitDefEqProofs := false) only [ruA, ruB, aEv, aTake, aLoad, aField, aIndex, ASt.get, aget, ASt.put, aStore, aBox, aCells, oneC, oneCL, Value.cells, Value.oneCell', ↓reduceIte, reduceCtorEq, Nat.reduceLT, Nat.reduceEqDiff, Nat.reduceAdd, Nat.reduceLeDiff, eq_self, tyF_111_1, tyA_3, tyS_3, tyA_82, tyS_82, tyA_35, tyS_35, tyF_32_4, tyA_25, tyS_25, tyE_25, tyF_32_6, tyA_27, tyS_27, tyE_27, tyF_84_0, tyA_84, tyS_84, tyZ_84, tyF_100_1, tyF_84_2, row_at, hk, es, hq, hql] | (with_reducible refine aIf_split (fun _ => ?_) (fun _ => ?_)) | (with_reducible refine aSel_split (fun _ => ?_) (fun _ => ?_)) | (with_reducible refine aGd_split (fun _ => ?_) (fun _ => ?_))))
        refine callT hho (.inl (by simp [roL, roA, treeL, treeC])) ?_
        (repeat' (first | simp (maxSteps := 5000000) (implicitDefEqProofs := false) only [ruA, ruB, aEv, aTake, aLoad, aField, aBin, bin2, aExtract, ASt.get, aget, ASt.put, aResL, aOne, ↓reduceIte, reduceCtorEq, Nat.reduceLT, Nat.reduceEqDiff, Nat.reduceAdd, Nat.reduceLeDiff, eq_self, AV.shift, AV.shiftL, tyA_3, tyS_3, tyF_35_1, tyF_84_0, tyF_84_1] | (with_reducible refine aIf_split (fun _ => ?_) (fun _ => ?_)) | (with_reducible refine aSel_split (fun _ => ?_) (fun _ => ?_)) | (with_reducible refine aGd_split (fun _ => ?_) (fun _ => ?_))))
        all_goals first
          | (simp [*]; done)
          | (refine callV (hasR_A _ _ ho) ?_; (repeat' (first | simp (maxSteps := 5000000) (implicitDefEqProofs := false) only [ruA, ruB, aEv, aTake, aLoad, aField, aLen, aBin, bin2, aUn, un1, ASt.get, aget, ASt.put, aResL, aOne, ↓reduceIte, reduceCtorEq, Nat.reduceLT, Nat.reduceEqDiff, Nat.reduceAdd, Nat.reduceLeDiff, eq_self, ne_eq, tyF_32_4, tyA_25, tyS_25, tyE_25] | (with_reducible refine aIf_split (fun _ => ?_) (fun _ => ?_)) | (with_reducible refine aSel_split (fun _ => ?_) (fun _ => ?_)) | (with_reducible refine aGd_split (fun _ => ?_) (fun _ => ?_)))))
        all_goals first
          | (simp [*]; done)
          | (refine callV (in18_A _ _) ?_; (repeat' (first | simp (maxSteps := 5000000) (implicitDefEqProofs := false) only [ruA, ruB, aEv, aTake, aLoad, aField, ASt.get, aget, ASt.put, aResL, aOne, ↓reduceIte, reduceCtorEq, Nat.reduceLT, Nat.reduceEqDiff, Nat.reduceAdd, Nat.reduceLeDiff, eq_self, tyA_3, tyS_3, tyF_35_1] | (with_reducible refine aIf_split (fun _ => ?_) (fun _ => ?_)) | (with_reducible refine aSel_split (fun _ => ?_) (fun _ => ?_)) | (with_reducible refine aGd_split (fun _ => ?_) (fun _ => ?_)))))
        all_goals first
          | (simp [*]; done)
          | (refine callV (hasR_A _ _ ho) ?_; (repeat' (first | simp (maxSteps := 5000000) (implicitDefEqProofs := false) only [ruA, ruB, aEv, ASt.get, aget, ASt.put, aResL, aOne, ↓reduceIte, Nat.reduceLT, Nat.reduceEqDiff, eq_self] | (with_reducible refine aIf_split (fun _ => ?_) (fun _ => ?_)) | (with_reducible refine aSel_split (fun _ => ?_) (fun _ => ?_)) | (with_reducible refine aGd_split (fun _ => ?_) (fun _ => ?_)))))
        all_goals (simp [*]; done)
      · have es : inB m.guards[k].stage (m.stages.length : Int) = false := by unfold inB; rw [Bool.and_eq_false_iff]; simp only [decide_eq_false_iff_not]; omega
        have eR : firesM m s (false, (k : Int)) event = false := by
          have : inS m m.guards[k].stage = false := by unfold inS; rw [Bool.and_eq_false_iff]; simp only [decide_eq_false_iff_not]; omega
          simp [firesM, readyM, sentryM, hk, this]
        rw [eR]
        (repeat' (first | simp (maxSteps := 5000000) (implicitDefEqProofs := false) only [ruA, ruB, aEv, aTake, aLoad, aField, ASt.get, aget, ASt.put, aBox, aCells, oneC, oneCL, Value.oneCell', envOf, ↓reduceIte, reduceCtorEq, Nat.reduceLT, Nat.reduceEqDiff, Nat.reduceAdd, Nat.reduceLeDiff, eq_self, tyF_111_0, tyA_4, tyS_4] | (with_reducible refine aIf_split (fun _ => ?_) (fun _ => ?_)) | (with_reducible refine aSel_split (fun _ => ?_) (fun _ => ?_)) | (with_reducible refine aGd_split (fun _ => ?_) (fun _ => ?_))))
        refine aDraw_quiet (by kernel_rfl) ?_
        (repeat' (first | simp (maxSteps := 5000000) (implicitDefEqProofs := false) only [ruA, ruB, aEv, aTake, aLoad, aField, aLen, aUn, un1, ASt.get, aget, ASt.put, ↓reduceIte, reduceCtorEq, Nat.reduceLT, Nat.reduceEqDiff, Nat.reduceAdd, Nat.reduceLeDiff, eq_self, ne_eq, dref, tyF_111_1, tyA_3, tyS_3, tyF_32_6, tyA_27, tyS_27, tyE_27] | (with_reducible refine aIf_split (fun _ => ?_) (fun _ => ?_)) | (with_reducible refine aSel_split (fun _ => ?_) (fun _ => ?_)) | (with_reducible refine aGd_split (fun _ => ?_) (fun _ => ?_))))
        refine callD (in18_A _ _) ?_
        (repeat' (first | simp (maxSteps := 5000000) (implicitDefEqProofs := false) only [ruA, ruB, aEv, aTake, aLoad, aField, aIndex, aLen, aUn, un1, ASt.get, aget, ASt.put, ↓reduceIte, reduceCtorEq, Nat.reduceLT, Nat.reduceEqDiff, Nat.reduceAdd, Nat.reduceLeDiff, eq_self, ne_eq, dref, tyF_111_1, tyA_3, tyS_3, tyF_32_4, tyA_25, tyS_25, tyE_25, tyF_32_6, tyA_27, tyS_27, tyE_27, tyF_84_0, row_at, hk, ei] | (with_reducible refine aIf_split (fun _ => ?_) (fun _ => ?_)) | (with_reducible refine aSel_split (fun _ => ?_) (fun _ => ?_)) | (with_reducible refine aGd_split (fun _ => ?_) (fun _ => ?_))))
        refine callD (in18_A _ _) ?_
        (repeat' (first | simp (maxSteps := 5000000) (implicitDefEqProofs := false) only [ruA, ruB, aEv, ASt.get, aget, ASt.put, aResL, aOne, ↓reduceIte, Nat.reduceLT, eq_self, es] | (with_reducible refine aIf_split (fun _ => ?_) (fun _ => ?_)) | (with_reducible refine aSel_split (fun _ => ?_) (fun _ => ?_)) | (with_reducible refine aGd_split (fun _ => ?_) (fun _ => ?_))))
    · have ei : inB xn (m.guards.length : Int) = false := by unfold inB; rw [Bool.and_eq_false_iff]; simp only [decide_eq_false_iff_not]; omega
      have eR : firesM m s (false, xn) event = false := by
        have : sentryM m (false, xn) = none := by
          simp only [sentryM, Bool.false_eq_true, if_false]
          split
          · rw [List.getElem?_eq_none (by omega)]; try rfl
          · rfl
        simp [firesM, readyM, this]
      rw [eR]
      (repeat' (first | simp (maxSteps := 5000000) (implicitDefEqProofs := false) only [ruA, ruB, aEv, aTake, aLoad, aField, ASt.get, aget, ASt.put, aBox, aCells, oneC, oneCL, Value.oneCell', envOf, ↓reduceIte, reduceCtorEq, Nat.reduceLT, Nat.reduceEqDiff, Nat.reduceAdd, Nat.reduceLeDiff, eq_self, tyF_111_0, tyA_4, tyS_4] | (with_reducible refine aIf_split (fun _ => ?_) (fun _ => ?_)) | (with_reducible refine aSel_split (fun _ => ?_) (fun _ => ?_)) | (with_reducible refine aGd_split (fun _ => ?_) (fun _ => ?_))))
      refine aDraw_quiet (by kernel_rfl) ?_
      (repeat' (first | simp (maxSteps := 5000000) (implicitDefEqProofs := false) only [ruA, ruB, aEv, aTake, aLoad, aField, aLen, aUn, un1, ASt.get, aget, ASt.put, ↓reduceIte, reduceCtorEq, Nat.reduceLT, Nat.reduceEqDiff, Nat.reduceAdd, Nat.reduceLeDiff, eq_self, ne_eq, dref, tyF_111_1, tyA_3, tyS_3, tyF_32_6, tyA_27, tyS_27, tyE_27] | (with_reducible refine aIf_split (fun _ => ?_) (fun _ => ?_)) | (with_reducible refine aSel_split (fun _ => ?_) (fun _ => ?_)) | (with_reducible refine aGd_split (fun _ => ?_) (fun _ => ?_))))
      refine callD (in18_A _ _) ?_
      (repeat' (first | simp (maxSteps := 5000000) (implicitDefEqProofs := false) only [ruA, ruB, aEv, ASt.get, aget, ASt.put, aResL, aOne, ↓reduceIte, Nat.reduceLT, Nat.reduceEqDiff, eq_self, ei] | (with_reducible refine aIf_split (fun _ => ?_) (fun _ => ?_)) | (with_reducible refine aSel_split (fun _ => ?_) (fun _ => ?_)) | (with_reducible refine aGd_split (fun _ => ?_) (fun _ => ?_))))
end
end Go.Proofs.YtmcegfoaceilgaaGreat
