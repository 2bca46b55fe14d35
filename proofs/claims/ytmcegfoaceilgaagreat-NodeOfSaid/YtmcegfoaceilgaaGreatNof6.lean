/-
  Parts of the proof: D2, D3, NestB, NestC, NestD, EvTree, EvTree2.
-/
import Derived.Test.YtmcegfoaceilgaaGreatNof5
import Derived.Deep.AppendLies
import Derived.Deep.RegionLaw
import Derived.IntWalk
set_option linter.unusedVariables false
set_option linter.unusedSimpArgs false
namespace Go.Proofs.YtmcegfoaceilgaaGreat
section
open Go.RowKit
set_option maxRecDepth 100000 in
theorem arityR_A (n : Int) : ADet Tryz.prog 132 [eI n] (val (.int .i64 (arity n))) := by
  refine adet_of_code mixedT Tryz.func132 rfl (by decide) Tryz.ntmps132 Tryz.results132 rfl (val_ok _) ?_
  (repeat' (first | simp (maxSteps := 5000000) (implicitDefEqProofs := false) only [ruA, ruB, aEv, aBin, bin2, ASt.get, aget, ASt.put, envOf, aResL, aOne, ↓reduceIte, reduceCtorEq, Nat.reduceLT, Nat.reduceEqDiff, eq_self] | (with_reducible refine aIf_split (fun _ => ?_) (fun _ => ?_)) | (with_reducible refine aSel_split (fun _ => ?_) (fun _ => ?_)) | (with_reducible refine aGd_split (fun _ => ?_) (fun _ => ?_))))
  all_goals (simp [arity] at *; (repeat' split) <;> omega)
abbrev eItm (n : Int) : List AV := [eI n, eS ByteArray.empty, eI 0, eS ByteArray.empty, eI 0, eS ByteArray.empty, eS ByteArray.empty, eI 0, eI 0]
abbrev sItms (l : List Int) : AV := .sl 9 (l.map eItm)
theorem beg_in (ops : List Int) : ∀ (i : Nat) (w : Int), -1 ≤ begI ops i w ∧ begI ops i w < i ∨ begI ops i w = -1
  | 0, w => .inr rfl
  | i + 1, w => by
    unfold begI
    split
    · exact .inr rfl
    · split
      · left
        omega
      · rcases beg_in ops i (w + (arity (ops.getD i 0) - 1)) with h | h
        · left
          omega
        · exact .inr h
set_option maxRecDepth 100000 in
set_option maxHeartbeats 2000000 in
theorem begR_A (l : List Int) (q : Nat) (hq : q ≤ l.length) (hl : l.length ≤ 1000000) : ADet Tryz.prog 116 [sItms l, eI ((q : Int) - 1)] (val (.int .i64 (begI l q 1))) := by
  refine adet_of_code mixedT Tryz.func116 rfl (by decide) Tryz.ntmps116 Tryz.results116 rfl (val_ok _) ?_
  (repeat' (first | simp (maxSteps := 5000000) (implicitDefEqProofs := false) only [ruA, ruB, aEv, ASt.get, aget, ASt.put, envOf, ↓reduceIte, Nat.reduceLT, Nat.reduceEqDiff, eq_self] | (with_reducible refine aIf_split (fun _ => ?_) (fun _ => ?_)) | (with_reducible refine aSel_split (fun _ => ?_) (fun _ => ?_)) | (with_reducible refine aGd_split (fun _ => ?_) (fun _ => ?_))))
  refine aLoop_of (fun st => ∃ (k : Nat) (v : Int), k ≤ q ∧ 1 ≤ v ∧ v ≤ 1 + 2 * ((q : Int) - k) ∧ begI l k v = begI l q 1 ∧ st = ⟨28, [(0, sItms l), (5, eI v), (6, eI ((k : Int) - 1))], [], 0⟩) (fun st => (match st.get 6 with | .c (.int _ n) => (n + 1).toNat | _ => 0)) ⟨_, (weak_cut1 (by (first | ((simp only [envIn, tabIn, envLt, tabLt, AV.lt, ruW, ASt.get, aget, ↓reduceIte, reduceCtorEq, Nat.reduceLT, Nat.reduceEqDiff, eq_self]) <;> (repeat' apply And.intro) <;> first | (rw [wrapK (by omega)]; done) | (simp; done) | omega) | fail))), q, 1, Nat.le_refl _, by omega, by omega, rfl, rfl⟩ ?_
  rintro _ ⟨k, v, hk, hv0, hv1, hb, rfl⟩
  cases k with
  | zero =>
    have e0 : decide ((0 : Int) ≤ ((0 : Nat) : Int) - 1) = false := by decide
    (repeat' (first | simp (maxSteps := 5000000) (implicitDefEqProofs := false) only [ruA, ruB, aEv, aBin, bin2, ASt.get, aget, ASt.put, aResL, aOne, ↓reduceIte, Nat.reduceLT, eq_self, e0] | (with_reducible refine aIf_split (fun _ => ?_) (fun _ => ?_)) | (with_reducible refine aSel_split (fun _ => ?_) (fun _ => ?_)) | (with_reducible refine aGd_split (fun _ => ?_) (fun _ => ?_))))
    rw [← hb]
    rfl
  | succ j =>
    have ej : ((j + 1 : Nat) : Int) - 1 = (j : Int) := by omega
    have hj : j < l.length := by omega
    simp only [ej]
    rw [begI, getD_of hj] at hb
    (repeat' (first | simp (maxSteps := 5000000) (implicitDefEqProofs := false) only [ruA, ruB, aEv, aTake, aLoad, aField, aIndex, aBin, bin2, ASt.get, aget, ASt.put, ↓reduceIte, reduceCtorEq, Nat.reduceLT, Nat.reduceEqDiff, Nat.reduceAdd, Nat.reduceLeDiff, eq_self, tyE_132, tyF_142_0, tyA_3, tyS_3, hj, row_at] | (with_reducible refine aIf_split (fun _ => ?_) (fun _ => ?_)) | (with_reducible refine aSel_split (fun _ => ?_) (fun _ => ?_)) | (with_reducible refine aGd_split (fun _ => ?_) (fun _ => ?_))))
    refine callV (arityR_A _) ?_
    have ha := arity_cases l[j]
    generalize arity l[j] = n at ha hb ⊢
    have ew1 : IntKind.i64.wrap (n - 1) = n - 1 := wrap_in (by omega) (by omega)
    have ew2 : IntKind.i64.wrap (v + (n - 1)) = v + (n - 1) := wrap_in (by omega) (by omega)
    (repeat' (first | simp (maxSteps := 5000000) (implicitDefEqProofs := false) only [ruA, ruB, aEv, aBin, bin2, ASt.get, aget, ASt.put, aResL, aOne, ↓reduceIte, Nat.reduceLT, Nat.reduceEqDiff, eq_self, ew1, ew2] | (with_reducible refine aIf_split (fun _ => ?_) (fun _ => ?_)) | (with_reducible refine aSel_split (fun _ => ?_) (fun _ => ?_)) | (with_reducible refine aGd_split (fun _ => ?_) (fun _ => ?_))))
    · rename_i h
      have h : n < 0 := by simpa using h
      rw [← hb, if_pos h]
    · rename_i h h2
      have h : ¬ n < 0 := by simpa using h
      have h2 : v + (n - 1) = 0 := by simpa using h2
      rw [← hb, if_neg h, if_pos h2]
    · rename_i h h2
      have h : ¬ n < 0 := by simpa using h
      have h2 : ¬ v + (n - 1) = 0 := by simpa using h2
      rw [if_neg h, if_neg h2] at hb
      have ew : IntKind.i64.wrap ((j : Int) - 1) = (j : Int) - 1 := wrap_in (by omega) (by omega)
      exact roundI (weak_cut1 (by (first | ((simp only [envIn, tabIn, envLt, tabLt, AV.lt, ruW, ASt.get, aget, ↓reduceIte, reduceCtorEq, Nat.reduceLT, Nat.reduceEqDiff, eq_self, ew]) <;> (repeat' apply And.intro) <;> first | (rw [wrapK (by omega)]; done) | (simp; done) | omega) | fail))) ⟨j, v + (n - 1), by omega, by omega, by omega, hb, rfl⟩ (by simp only [ruW, aget, ↓reduceIte, Nat.reduceLT, eq_self]; omega)
set_option maxRecDepth 100000 in
theorem check04R_A (l : List Int) (hl : l.length ≤ 1000000) : ADet Tryz.prog 93 [sItms l] (val (.int .i64 (checkE l))) := by
  refine adet_of_code mixedT Tryz.func93 rfl (by decide) Tryz.ntmps93 Tryz.results93 rfl (val_ok _) ?_
  have ew : IntKind.i64.wrap ((l.length : Int) - 1) = (l.length : Int) - 1 := wrap_in (by omega) (by omega)
  (repeat' (first | simp (maxSteps := 5000000) (implicitDefEqProofs := false) only [ruA, ruB, aEv, aLen, aBin, bin2, ASt.get, aget, ASt.put, envOf, aResL, aOne, ↓reduceIte, reduceCtorEq, Nat.reduceLT, Nat.reduceEqDiff, eq_self, ne_eq, tyE_132, ew] | (with_reducible refine aIf_split (fun _ => ?_) (fun _ => ?_)) | (with_reducible refine aSel_split (fun _ => ?_) (fun _ => ?_)) | (with_reducible refine aGd_split (fun _ => ?_) (fun _ => ?_))))
  · rename_i h
    have h : l.length = 0 := by simpa using h
    simp [checkE, h]
  · rename_i h h2
    have h : ¬ l.length = 0 := by simpa using h
    have h2 : 64 < l.length := by simp at h2; omega
    simp only [checkE, if_neg h, if_pos h2]
  · rename_i h h2
    have h : ¬ l.length = 0 := by simpa using h
    have h2 : ¬ 64 < l.length := by simp at h2; omega
    refine callV (begR_A l l.length (Nat.le_refl _) hl) ?_
    have hz := beg_zero (ops := l) (by omega)
    (repeat' (first | simp (maxSteps := 5000000) (implicitDefEqProofs := false) only [ruA, ruB, aEv, aBin, bin2, ASt.get, aget, ASt.put, aResL, aOne, ↓reduceIte, Nat.reduceLT, eq_self] | (with_reducible refine aIf_split (fun _ => ?_) (fun _ => ?_)) | (with_reducible refine aSel_split (fun _ => ?_) (fun _ => ?_)) | (with_reducible refine aGd_split (fun _ => ?_) (fun _ => ?_))))
    · rename_i h3
      have h3 : ¬ rowN l 0 = some 1 := by
        rw [← hz]
        simpa using h3
      simp only [checkE, if_neg h, if_neg h2, if_neg h3]
    · rename_i h3
      have h3 : rowN l 0 = some 1 := by
        rw [← hz]
        simpa using h3
      simp only [checkE, if_neg h, if_neg h2, if_pos h3]
set_option maxRecDepth 100000 in
theorem shapeR_A (l : List Inst) (hl : l.length ≤ 1000000) : ADet Tryz.prog 131 [sInsts l] (own 142 9 (((l.map Inst.op).take 70).map eItm)) := by
  refine adet_of_code mixedT Tryz.func131 rfl (by decide) Tryz.ntmps131 Tryz.results131 rfl (own_ok _ _ _) ?_
  (repeat' (first | simp (maxSteps := 5000000) (implicitDefEqProofs := false) only [ruA, aEv, ASt.put, envOf] | (with_reducible refine aIf_split (fun _ => ?_) (fun _ => ?_)) | (with_reducible refine aSel_split (fun _ => ?_) (fun _ => ?_)) | (with_reducible refine aGd_split (fun _ => ?_) (fun _ => ?_))))
  refine aLoop_of (fun st => ∃ k : Nat, k ≤ l.length ∧ k ≤ 70 ∧ st = ⟨25, [(0, sInsts l), (3, .osl 0), (4, eI (k : Int))], [(0, some (.row 142 9 (((l.map Inst.op).take k).map eItm)))], 1⟩) (fun st => l.length - slotN st 4) ⟨_, ((weak_nil 3 142 9 (by simp only [ASt.get, aget, ↓reduceIte, Nat.reduceLT, Nat.reduceEqDiff, eq_self])).trans (weak_ren1 [0] ⟨(by decide), (by (first | ((simp only [envInR, tabInR, envLt, tabLt, AObj.lt, AV.lt, AV.ren, AObj.ren, List.getD_cons_zero, List.length_cons, List.length_nil, ruW, ASt.get, aget, ↓reduceIte, reduceCtorEq, Nat.reduceLT, Nat.reduceAdd, eq_self, List.take_zero]) <;> (repeat' apply And.intro) <;> first | (rw [wrapK (by omega)]; done) | (simp; done) | omega) | fail))⟩)), 0, Nat.zero_le _, by omega, rfl⟩ ?_
  rintro _ ⟨k, hk, hk2, rfl⟩
  have hfin : ¬ (k < l.length ∧ k < 70) → ((l.map Inst.op).take k) = ((l.map Inst.op).take 70) := fun h => by
    by_cases h1 : k = 70
    · rw [h1]
    · rw [List.take_of_length_le (by simp; omega), List.take_of_length_le (by simp; omega)]
  by_cases hlt : k < l.length
  · by_cases h70 : k < 70
    · have e1 : decide ((k : Int) < 70) = true := by simp; omega
      have et : ((l.map Inst.op).take (k + 1)).map eItm = ((l.map Inst.op).take k).map eItm ++ [eItm l[k].op] := by
        rw [take_snoc eItm (l.map Inst.op) (by simpa using hlt)]
        simp
      have hkl : ((l.map Inst.op).take k).length = k := by simp; omega
      (repeat' (first | simp (maxSteps := 5000000) (implicitDefEqProofs := false) only [ruA, ruB, aEv, aTake, aLoad, aField, aIndex, aLen, aBin, bin2, ASt.get, aget, ASt.put, aAppend, aBuildSlice, aBuild, aFill, oneParts, aCells, oneC, oneCL, treeC, treeL, aLit, aDst, aSrc, appTab, Value.cells, Value.oneCell', ↓reduceIte, reduceCtorEq, Nat.reduceLT, Nat.reduceEqDiff, Nat.reduceAdd, Nat.reduceMul, Nat.reduceLeDiff, eq_self, ne_eq, aBuildSlice1, frzs, ownIds, tyE_82, tyF_136_0, tyA_3, tyS_3, tyB_142, tyR_132, row_at, hlt, e1] | (with_reducible refine aIf_split (fun _ => ?_) (fun _ => ?_)) | (with_reducible refine aSel_split (fun _ => ?_) (fun _ => ?_)) | (with_reducible refine aGd_split (fun _ => ?_) (fun _ => ?_))))
      refine ⟨rfl, by omega, roundI (weak_ren1 [2] ⟨(by decide), (by (first | ((simp only [envInR, tabInR, envLt, tabLt, AObj.lt, AV.lt, AV.ren, AObj.ren, List.getD_cons_zero, List.length_cons, List.length_nil, ruW, ASt.get, aget, ↓reduceIte, reduceCtorEq, Nat.reduceLT, Nat.reduceEqDiff, Nat.reduceAdd, eq_self, et]) <;> (repeat' apply And.intro) <;> first | (rw [wrapK (by omega)]; done) | (simp; done) | omega) | fail))⟩) ⟨k + 1, by omega, by omega, rfl⟩ (by simp only [slotN, ruW, ASt.get, aget, ↓reduceIte, Nat.reduceLT, eq_self]; omega)⟩
    · have e1 : decide ((k : Int) < 70) = false := by simp; omega
      (repeat' (first | simp (maxSteps := 5000000) (implicitDefEqProofs := false) only [ruA, ruB, aEv, aLen, aBin, bin2, ASt.get, aget, ASt.put, aResL, aOne, ↓reduceIte, reduceCtorEq, Nat.reduceLT, Nat.reduceEqDiff, eq_self, ne_eq, tyE_82, hlt, e1] | (with_reducible refine aIf_split (fun _ => ?_) (fun _ => ?_)) | (with_reducible refine aSel_split (fun _ => ?_) (fun _ => ?_)) | (with_reducible refine aGd_split (fun _ => ?_) (fun _ => ?_))))
      rw [← hfin (by omega)]
      exact aGives_own (by simp [ATab.get_cons])
  · (repeat' (first | simp (maxSteps := 5000000) (implicitDefEqProofs := false) only [ruA, ruB, aEv, aLen, aBin, bin2, ASt.get, aget, ASt.put, aResL, aOne, ↓reduceIte, reduceCtorEq, Nat.reduceLT, Nat.reduceEqDiff, eq_self, ne_eq, tyE_82, hlt] | (with_reducible refine aIf_split (fun _ => ?_) (fun _ => ?_)) | (with_reducible refine aSel_split (fun _ => ?_) (fun _ => ?_)) | (with_reducible refine aGd_split (fun _ => ?_) (fun _ => ?_))))
    rw [← hfin (by omega)]
    exact aGives_own (by simp [ATab.get_cons])
set_option maxRecDepth 100000 in
theorem kids0_A (l : List Int) (e : Nat) (he : e < l.length) (h : arity l[e] = 0) : ADet Tryz.prog 154 [sItms l, eI (e : Int)] (val (.slice none 0 0)) := by
  refine adet_of_code mixedT Tryz.func154 rfl (by decide) Tryz.ntmps154 Tryz.results154 rfl (val_ok _) ?_
  (repeat' (first | simp (maxSteps := 5000000) (implicitDefEqProofs := false) only [ruA, ruB, aEv, aTake, aLoad, aField, aIndex, ASt.get, aget, ASt.put, envOf, ↓reduceIte, reduceCtorEq, Nat.reduceLT, Nat.reduceEqDiff, Nat.reduceAdd, Nat.reduceLeDiff, eq_self, tyE_132, tyF_142_0, tyA_3, tyS_3, row_at, he] | (with_reducible refine aIf_split (fun _ => ?_) (fun _ => ?_)) | (with_reducible refine aSel_split (fun _ => ?_) (fun _ => ?_)) | (with_reducible refine aGd_split (fun _ => ?_) (fun _ => ?_))))
  refine callV (arityR_A _) ?_
  rw [h]
  have e0 : ((0 : Int) == 0) = true := by decide
  (repeat' (first | simp (maxSteps := 5000000) (implicitDefEqProofs := false) only [ruA, aEv, aBin, bin2, ASt.get, aget, ASt.put, aResL, aOne, ↓reduceIte, Nat.reduceLT, eq_self, e0] | (with_reducible refine aIf_split (fun _ => ?_) (fun _ => ?_)) | (with_reducible refine aSel_split (fun _ => ?_) (fun _ => ?_)) | (with_reducible refine aGd_split (fun _ => ?_) (fun _ => ?_))))
set_option maxRecDepth 100000 in
theorem kids1_A (l : List Int) (e : Nat) (he : e < l.length) (h : arity l[e] = 1) (hl : l.length ≤ 1000000) : ADet Tryz.prog 154 [sItms l, eI (e : Int)] (own 3 1 [[eI ((e : Int) - 1)]]) := by
  refine adet_of_code mixedT Tryz.func154 rfl (by decide) Tryz.ntmps154 Tryz.results154 rfl (own_ok _ _ _) ?_
  have ew : IntKind.i64.wrap ((e : Int) - 1) = (e : Int) - 1 := wrap_in (by omega) (by omega)
  (repeat' (first | simp (maxSteps := 5000000) (implicitDefEqProofs := false) only [ruA, ruB, aEv, aTake, aLoad, aField, aIndex, ASt.get, aget, ASt.put, envOf, ↓reduceIte, reduceCtorEq, Nat.reduceLT, Nat.reduceEqDiff, Nat.reduceAdd, Nat.reduceLeDiff, eq_self, tyE_132, tyF_142_0, tyA_3, tyS_3, row_at, he] | (with_reducible refine aIf_split (fun _ => ?_) (fun _ => ?_)) | (with_reducible refine aSel_split (fun _ => ?_) (fun _ => ?_)) | (with_reducible refine aGd_split (fun _ => ?_) (fun _ => ?_))))
  refine callV (arityR_A _) ?_
  rw [h]
  (repeat' (first | simp (maxSteps := 5000000) (implicitDefEqProofs := false) only [ruA, ruB, aEv, aBin, bin2, ASt.get, aget, ASt.put, aBuildSlice, aCells, oneC, oneCL, treeC, treeL, aLit, Value.cells, Value.oneCell', aResL, aOne, ↓reduceIte, reduceCtorEq, Nat.reduceLT, Nat.reduceEqDiff, Nat.reduceMul, Nat.reduceLeDiff, eq_self, aBuildSlice1, frzs, ownIds, tyR_33, ew] | (with_reducible refine aIf_split (fun _ => ?_) (fun _ => ?_)) | (with_reducible refine aSel_split (fun _ => ?_) (fun _ => ?_)) | (with_reducible refine aGd_split (fun _ => ?_) (fun _ => ?_))))
  all_goals first
    | (refine ⟨rfl, aGives_own (by simp [ATab.get_cons])⟩; done)
    | (rename_i h; simp at h; done)
    | exact aGives_own (by simp [ATab.get_cons])
set_option maxRecDepth 100000 in
theorem kids2_A (l : List Int) (e : Nat) (he : e < l.length) (h : arity l[e] = 2) (hl : l.length ≤ 1000000) : ADet Tryz.prog 154 [sItms l, eI (e : Int)] (own 3 1 [[eI (begI l e 1 - 1)], [eI ((e : Int) - 1)]]) := by
  refine adet_of_code mixedT Tryz.func154 rfl (by decide) Tryz.ntmps154 Tryz.results154 rfl (own_ok _ _ _) ?_
  have ew : IntKind.i64.wrap ((e : Int) - 1) = (e : Int) - 1 := wrap_in (by omega) (by omega)
  (repeat' (first | simp (maxSteps := 5000000) (implicitDefEqProofs := false) only [ruA, ruB, aEv, aTake, aLoad, aField, aIndex, ASt.get, aget, ASt.put, envOf, ↓reduceIte, reduceCtorEq, Nat.reduceLT, Nat.reduceEqDiff, Nat.reduceAdd, Nat.reduceLeDiff, eq_self, tyE_132, tyF_142_0, tyA_3, tyS_3, row_at, he] | (with_reducible refine aIf_split (fun _ => ?_) (fun _ => ?_)) | (with_reducible refine aSel_split (fun _ => ?_) (fun _ => ?_)) | (with_reducible refine aGd_split (fun _ => ?_) (fun _ => ?_))))
  refine callV (arityR_A _) ?_
  rw [h]
  (repeat' (first | simp (maxSteps := 5000000) (implicitDefEqProofs := false) only [ruA, ruB, aEv, aBin, bin2, ASt.get, aget, ASt.put, aBuildSlice, aCells, oneC, oneCL, treeC, treeL, aLit, Value.cells, Value.oneCell', aResL, aOne, ↓reduceIte, reduceCtorEq, Nat.reduceLT, Nat.reduceEqDiff, Nat.reduceMul, Nat.reduceLeDiff, eq_self, aBuildSlice1, frzs, ownIds, tyR_33, ew] | (with_reducible refine aIf_split (fun _ => ?_) (fun _ => ?_)) | (with_reducible refine aSel_split (fun _ => ?_) (fun _ => ?_)) | (with_reducible refine aGd_split (fun _ => ?_) (fun _ => ?_))))
  all_goals first
    | (rename_i h; simp at h; done)
    | skip
  refine callV (begR_A l e (by omega) hl) ?_
  have ew2 : IntKind.i64.wrap (begI l e 1 - 1) = begI l e 1 - 1 := by
    rcases beg_in l e 1 with h | h <;> exact wrap_in (by omega) (by omega)
  (repeat' (first | simp (maxSteps := 5000000) (implicitDefEqProofs := false) only [ruA, ruB, aEv, aBin, bin2, ASt.get, aget, ASt.put, aBuildSlice, aCells, oneC, oneCL, treeC, treeL, aLit, Value.cells, Value.oneCell', aResL, aOne, ↓reduceIte, Nat.reduceLT, Nat.reduceEqDiff, Nat.reduceAdd, Nat.reduceMul, Nat.reduceLeDiff, eq_self, aBuildSlice1, frzs, ownIds, tyR_33, ew, ew2] | (with_reducible refine aIf_split (fun _ => ?_) (fun _ => ?_)) | (with_reducible refine aSel_split (fun _ => ?_) (fun _ => ?_)) | (with_reducible refine aGd_split (fun _ => ?_) (fun _ => ?_))))
  exact ⟨rfl, aGives_own (by simp [ATab.get_cons])⟩
def thereB (vals : List Int) (a : Int) : Bool := decide (-1 ≤ a) && decide (a < (vals.length : Int))
set_option maxRecDepth 100000 in
theorem thereR_A (s : St) (a n : Int) : ADet Tryz.prog 153 [.agg (eSt s), .agg [eI a, eI n]] (val (.bool (thereB s.vals a))) := by
  refine adet_of_code mixedT Tryz.func153 rfl (by decide) Tryz.ntmps153 Tryz.results153 rfl (val_ok _) ?_
  unfold thereB
  (repeat' (first | simp (maxSteps := 5000000) (implicitDefEqProofs := false) only [ruA, ruB, aEv, aTake, aLoad, aField, aLen, aBin, bin2, ASt.get, aget, ASt.put, aBox, aCells, oneC, oneCL, Value.oneCell', envOf, aResL, aOne, ↓reduceIte, reduceCtorEq, Nat.reduceLT, Nat.reduceEqDiff, Nat.reduceAdd, Nat.reduceLeDiff, eq_self, ne_eq, tyF_134_0, tyA_3, tyS_3, tyF_35_0, tyA_23, tyS_23, tyE_23] | (with_reducible refine aIf_split (fun _ => ?_) (fun _ => ?_)) | (with_reducible refine aSel_split (fun _ => ?_) (fun _ => ?_)) | (with_reducible refine aGd_split (fun _ => ?_) (fun _ => ?_))))
  all_goals (rename_i h; rw [h]; simp)
set_option maxRecDepth 100000 in
theorem valR_A (s : St) (a n v : Int) (h : valO s.vals a n = some v) : ADet Tryz.prog 156 [.agg (eSt s), .agg [eI a, eI n]] (val (.int .i64 v)) := by
  refine adet_of_code mixedT Tryz.func156 rfl (by decide) Tryz.ntmps156 Tryz.results156 rfl (val_ok _) ?_
  unfold valO at h
  by_cases h1 : a = -1
  · rw [if_pos h1] at h
    cases h
    subst h1
    have e0 : ((-1 : Int) == -1) = true := by decide
    (repeat' (first | simp (maxSteps := 5000000) (implicitDefEqProofs := false) only [ruA, ruB, aEv, aTake, aLoad, aField, aBin, bin2, ASt.get, aget, ASt.put, aBox, aCells, oneC, oneCL, Value.oneCell', envOf, aResL, aOne, ↓reduceIte, reduceCtorEq, Nat.reduceLT, Nat.reduceEqDiff, Nat.reduceAdd, Nat.reduceLeDiff, eq_self, tyF_134_0, tyA_3, tyS_3, tyF_134_1, tyA_2, tyS_2, e0] | (with_reducible refine aIf_split (fun _ => ?_) (fun _ => ?_)) | (with_reducible refine aSel_split (fun _ => ?_) (fun _ => ?_)) | (with_reducible refine aGd_split (fun _ => ?_) (fun _ => ?_))))
  · rw [if_neg h1] at h
    by_cases h2 : a < 0
    · rw [if_pos h2] at h
      cases h
    · rw [if_neg h2] at h
      obtain ⟨k, rfl⟩ : ∃ k : Nat, a = (k : Int) := ⟨a.toNat, by omega⟩
      obtain ⟨hk, rfl⟩ := List.getElem?_eq_some_iff.1 h
      simp only [Int.toNat_natCast] at hk
      have e1 : ((k : Int) == -1) = false := by rw [beq_eq_false_iff_ne]; omega
      (repeat' (first | simp (maxSteps := 5000000) (implicitDefEqProofs := false) only [ruA, ruB, aEv, aTake, aLoad, aField, aIndex, aBin, bin2, ASt.get, aget, ASt.put, aBox, aCells, oneC, oneCL, Value.oneCell', envOf, aResL, aOne, ↓reduceIte, reduceCtorEq, Nat.reduceLT, Nat.reduceEqDiff, Nat.reduceAdd, Nat.reduceLeDiff, eq_self, tyF_134_0, tyA_3, tyS_3, tyA_2, tyS_2, tyF_35_0, tyA_23, tyS_23, tyE_23, row_at, hk, e1] | (with_reducible refine aIf_split (fun _ => ?_) (fun _ => ?_)) | (with_reducible refine aSel_split (fun _ => ?_) (fun _ => ?_)) | (with_reducible refine aGd_split (fun _ => ?_) (fun _ => ?_))))
set_option maxRecDepth 100000 in
theorem cmpR_A (op a b : Int) : ADet Tryz.prog 155 [eI op, eI a, eI b] (val (.bool (soB op (cmpI a b)))) := by
  refine adet_of_code mixedT Tryz.func155 rfl (by decide) Tryz.ntmps155 Tryz.results155 rfl (val_ok _) ?_
  (repeat' (first | simp (maxSteps := 5000000) (implicitDefEqProofs := false) only [ruA, ruB, aEv, aBin, bin2, ASt.get, aget, ASt.put, envOf, aResL, aOne, ↓reduceIte, reduceCtorEq, Nat.reduceLT, Nat.reduceEqDiff, Nat.reduceAdd, eq_self] | (with_reducible refine aIf_split (fun _ => ?_) (fun _ => ?_)) | (with_reducible refine aSel_split (fun _ => ?_) (fun _ => ?_)) | (with_reducible refine aGd_split (fun _ => ?_) (fun _ => ?_))))
  all_goals
    (simp only [beq_iff_eq, beq_eq_false_iff_ne, ne_eq] at *
     simp_all [soB, cmpI]
     try ((repeat' split) <;> simp_all <;> omega))
end
section
open Go.RowKit
theorem items_plain {l : List Int} : ∀ row ∈ l.map eItm, ∀ av ∈ row, av.plain := fun row hr av ha => by
  obtain ⟨n, _, rfl⟩ := List.mem_map.1 hr
  simp [eItm] at ha
  rcases ha with rfl | rfl | rfl | rfl | rfl | rfl | rfl | rfl | rfl <;> trivial
def attrB (attrs : Bool) (op : Int) : Bool := attrs && decide (3 ≤ op) && decide (op ≤ 8)
theorem askOk_at (vals : List Int) (x : Inst) (attrs : Bool) : askOk vals attrs x = !((decide (18 < x.op) || (decide (10 < x.op) && decide (x.op < 15))) || (attrB attrs x.op && (!thereB vals x.la || !thereB vals x.ra))) := by
  unfold askOk attrB thereB
  simp only [Bool.and_assoc, Bool.or_assoc]
set_option maxRecDepth 100000 in
set_option maxHeartbeats 8000000 in
theorem check16_A (l : List Inst) (s : St) (attrs : Bool) (hl : l.length ≤ 1000000) (b : Bool) (hb : b = true ↔ (checkE (l.map Inst.op) = 0 ∧ ∀ x ∈ l, askOk s.vals attrs x = true)) : ADet Tryz.prog 129 [sInsts l, .agg (eSt s), eB attrs] (val (.bool b)) := by
  refine adet_of_code mixedT Tryz.func129 rfl (by decide) Tryz.ntmps129 Tryz.results129 rfl (val_ok _) ?_
  have h70 : checkE ((l.map Inst.op).take 70) = checkE (l.map Inst.op) := by
    by_cases h : l.length ≤ 70
    · rw [List.take_of_length_le (by simpa using h)]
    · have e7 : ((l.map Inst.op).take 70).length = 70 := by rw [List.length_take, List.length_map]; omega
      have e8 : (l.map Inst.op).length = l.length := List.length_map ..
      unfold checkE
      rw [if_neg (by omega), if_pos (by omega), if_neg (by omega), if_pos (by omega)]
  (repeat' (first | simp (maxSteps := 5000000) (implicitDefEqProofs := false) only [ruA, ruB, aEv, ASt.get, aget, ASt.put, aBox, aCells, oneC, oneCL, Value.oneCell', envOf, ↓reduceIte, reduceCtorEq, Nat.reduceLT, Nat.reduceAdd, eq_self] | (with_reducible refine aIf_split (fun _ => ?_) (fun _ => ?_)) | (with_reducible refine aSel_split (fun _ => ?_) (fun _ => ?_)) | (with_reducible refine aGd_split (fun _ => ?_) (fun _ => ?_))))
  refine callO (shapeR_A l hl) (.inr items_plain) ?_
  (repeat' (first | simp (maxSteps := 5000000) (implicitDefEqProofs := false) only [ruA, ruB, aEv, ASt.get, aget, ASt.put, ↓reduceIte, Nat.reduceLT, Nat.reduceAdd, eq_self] | (with_reducible refine aIf_split (fun _ => ?_) (fun _ => ?_)) | (with_reducible refine aSel_split (fun _ => ?_) (fun _ => ?_)) | (with_reducible refine aGd_split (fun _ => ?_) (fun _ => ?_))))
  refine callV (check04R_A _ (by simp; omega)) ?_
  rw [h70]
  (repeat' (first | simp (maxSteps := 5000000) (implicitDefEqProofs := false) only [ruA, ruB, aEv, aBin, bin2, ASt.get, aget, ASt.put, aResL, aOne, ↓reduceIte, Nat.reduceLT, eq_self] | (with_reducible refine aIf_split (fun _ => ?_) (fun _ => ?_)) | (with_reducible refine aSel_split (fun _ => ?_) (fun _ => ?_)) | (with_reducible refine aGd_split (fun _ => ?_) (fun _ => ?_))))
  · rename_i h
    symm
    rw [Bool.eq_false_iff]
    intro h2
    have h3 := (hb.1 h2).1
    simp [h3] at h
  · rename_i h
    have hc : checkE (l.map Inst.op) = 0 := by simpa using h
    refine aLoop_of (fun st => ∃ k : Nat, k ≤ l.length ∧ (∀ i (hi : i < l.length), i < k → askOk s.vals attrs l[i] = true) ∧ st = ⟨65, [(0, sInsts l), (2, eB attrs), (4, .op 0 0 0), (7, eI (k : Int))], [(0, some (.box 35 (eSt s)))], 1⟩) (fun st => l.length - slotN st 7) ⟨_, (weak_cut1 (by (first | ((simp only [envIn, tabIn, envLt, tabLt, AObj.lt, AV.lt, AV.ltL, ruW, ASt.get, aget, ↓reduceIte, reduceCtorEq, Nat.reduceLT, Nat.reduceEqDiff, eq_self]) <;> (repeat' apply And.intro) <;> first | (rw [wrapK (by omega)]; done) | (simp; done) | omega) | fail))), 0, Nat.zero_le _, fun i _ h => by omega, rfl⟩ ?_
    rintro _ ⟨k, hk, hI, rfl⟩
    by_cases hlt : k < l.length
    · have hno : askOk s.vals attrs l[k] = false → b = false := fun h2 => by
        rw [Bool.eq_false_iff]
        intro h3
        rw [(hb.1 h3).2 _ (List.getElem_mem hlt)] at h2
        cases h2
      have hyes : askOk s.vals attrs l[k] = true → ∀ i (hi : i < l.length), i < k + 1 → askOk s.vals attrs l[i] = true := fun h2 i hi h3 => by
        rcases Nat.lt_or_ge i k with h4 | h4
        · exact hI i hi h4
        · obtain rfl : i = k := by omega
          exact h2
      rw [askOk_at] at hno hyes
      generalize hx : l[k] = x at hno hyes
      obtain ⟨op, la, ln, ra, rn, n, u⟩ := x
      simp only at hno hyes
      have ex : eInst l[k] = [eI op, eI la, eI ln, eI ra, eI rn, eI n, eI u] := by rw [hx]
      have eop : l[k].op = op := by rw [hx]
      (repeat' (first | simp (maxSteps := 5000000) (implicitDefEqProofs := false) only [ruA, ruB, aEv, aTake, aLoad, aField, aIndex, aLen, aBin, bin2, ASt.get, aget, ASt.put, ↓reduceIte, reduceCtorEq, Nat.reduceLT, Nat.reduceEqDiff, Nat.reduceAdd, Nat.reduceLeDiff, eq_self, ne_eq, tyE_82, tyF_136_0, tyA_3, tyS_3, row_at, hlt, ex] | (with_reducible refine aIf_split (fun _ => ?_) (fun _ => ?_)) | (with_reducible refine aSel_split (fun _ => ?_) (fun _ => ?_)) | (with_reducible refine aGd_split (fun _ => ?_) (fun _ => ?_))))
      refine aDraw_quiet (by kernel_rfl) ?_
      (repeat' (first | simp (maxSteps := 5000000) (implicitDefEqProofs := false) only [ruA, ruB, aEv, aTake, aLoad, aField, aIndex, aBin, bin2, aUn, un1, ASt.get, aget, ASt.put, aResL, aOne, ↓reduceIte, reduceCtorEq, Nat.reduceLT, Nat.reduceEqDiff, Nat.reduceAdd, Nat.reduceLeDiff, eq_self, dref, dref1, tyE_82, tyA_35, tyS_35, tyF_136_1, tyA_134, tyS_134, row_at, hlt, ex] | (with_reducible refine aIf_split (fun _ => ?_) (fun _ => ?_)) | (with_reducible refine aSel_split (fun _ => ?_) (fun _ => ?_)) | (with_reducible refine aGd_split (fun _ => ?_) (fun _ => ?_))))
      all_goals first
        | (symm; exact hno (by simp [attrB, *]))
        | exact roundI (weak_cut1 (by (first | ((simp only [envIn, tabIn, envLt, tabLt, AObj.lt, AV.lt, AV.ltL, ruW, ASt.get, aget, ↓reduceIte, reduceCtorEq, Nat.reduceLT, Nat.reduceEqDiff, eq_self]) <;> (repeat' apply And.intro) <;> first | (rw [wrapK (by omega)]; done) | (simp; done) | omega) | fail))) ⟨k + 1, by omega, hyes (by simp [attrB, *]), rfl⟩ (by simp only [slotN, ruW, ASt.get, aget, ↓reduceIte, Nat.reduceLT, Nat.reduceEqDiff, eq_self]; omega)
        | skip
      all_goals
        refine callD (thereR_A s la ln) ?_
        (repeat' (first | simp (maxSteps := 5000000) (implicitDefEqProofs := false) only [ruA, ruB, aEv, aTake, aLoad, aField, aIndex, aUn, un1, ASt.get, aget, ASt.put, aResL, aOne, ↓reduceIte, reduceCtorEq, Nat.reduceLT, Nat.reduceEqDiff, Nat.reduceAdd, Nat.reduceLeDiff, eq_self, dref, dref1, tyE_82, tyA_35, tyS_35, tyA_134, tyS_134, tyF_136_2, row_at, hlt, ex] | (with_reducible refine aIf_split (fun _ => ?_) (fun _ => ?_)) | (with_reducible refine aSel_split (fun _ => ?_) (fun _ => ?_)) | (with_reducible refine aGd_split (fun _ => ?_) (fun _ => ?_))))
        all_goals first
          | (symm; exact hno (by simp [attrB, *]))
          | exact roundI (weak_cut1 (by (first | ((simp only [envIn, tabIn, envLt, tabLt, AObj.lt, AV.lt, AV.ltL, ruW, ASt.get, aget, ASt.put, ↓reduceIte, reduceCtorEq, Nat.reduceLT, Nat.reduceEqDiff, Nat.reduceAdd, Nat.reduceLeDiff, eq_self, implies_true]) <;> (repeat' apply And.intro) <;> first | (rw [wrapK (by omega)]; done) | (simp; done) | omega) | fail))) ⟨k + 1, by omega, hyes (by simp [attrB, *]), rfl⟩ (by simp only [slotN, ruW, ASt.get, aget, ASt.put, ↓reduceIte, reduceCtorEq, Nat.reduceLT, Nat.reduceEqDiff, Nat.reduceAdd, Nat.reduceLeDiff, eq_self, implies_true]; omega)
          | skip
      all_goals
        refine callD (thereR_A s ra rn) ?_
        (repeat' (first | simp (maxSteps := 5000000) (implicitDefEqProofs := false) only [ruA, ruB, aEv, aBin, bin2, ASt.get, aget, ASt.put, aResL, aOne, ↓reduceIte, Nat.reduceLT, Nat.reduceEqDiff, eq_self] | (with_reducible refine aIf_split (fun _ => ?_) (fun _ => ?_)) | (with_reducible refine aSel_split (fun _ => ?_) (fun _ => ?_)) | (with_reducible refine aGd_split (fun _ => ?_) (fun _ => ?_))))
        all_goals first
          | (symm; exact hno (by simp [attrB, *]))
          | exact roundI (weak_cut1 (by (first | ((simp only [envIn, tabIn, envLt, tabLt, AObj.lt, AV.lt, AV.ltL, ruW, ASt.get, aget, ↓reduceIte, reduceCtorEq, Nat.reduceLT, Nat.reduceEqDiff, eq_self]) <;> (repeat' apply And.intro) <;> first | (rw [wrapK (by omega)]; done) | (simp; done) | omega) | fail))) ⟨k + 1, by omega, hyes (by simp [attrB, *]), rfl⟩ (by simp only [slotN, ruW, ASt.get, aget, ↓reduceIte, Nat.reduceLT, Nat.reduceEqDiff, eq_self]; omega)
          | skip
    · obtain rfl : k = l.length := by omega
      (repeat' (first | simp (maxSteps := 5000000) (implicitDefEqProofs := false) only [ruA, ruB, aEv, aLen, aBin, bin2, ASt.get, aget, ASt.put, aResL, aOne, ↓reduceIte, reduceCtorEq, Nat.reduceLT, Nat.reduceEqDiff, eq_self, ne_eq, tyE_82, hlt] | (with_reducible refine aIf_split (fun _ => ?_) (fun _ => ?_)) | (with_reducible refine aSel_split (fun _ => ?_) (fun _ => ?_)) | (with_reducible refine aGd_split (fun _ => ?_) (fun _ => ?_))))
      symm
      exact hb.2 ⟨hc, fun x hx => by obtain ⟨i, hi, rfl⟩ := List.getElem_of_mem hx; exact hI i hi hi⟩
theorem valO_of {s : St} {x : Inst} {c : Int} (h : cmS s.vals x = some c) : ∃ a b, valO s.vals x.la x.ln = some a ∧ valO s.vals x.ra x.rn = some b ∧ c = cmpI a b := by
  unfold cmS at h
  split at h
  · rename_i a b ha hb
    cases h
    exact ⟨a, b, ha, hb, rfl⟩
  · cases h
set_option maxRecDepth 100000 in
set_option maxHeartbeats 8000000 in
theorem at16_A (l : List Inst) (s : St) (hl : l.length ≤ 70) (ho : ok64 s.opn) (hd : ok64 s.don) : ∀ (n e : Nat) (he : e < l.length) (v : Bool) (r : List Bool), e < n → runG (cmS s.vals) s.opn s.don (l.take (e + 1)) [] = some (v :: r) →
    ADet Tryz.prog 130 [sInsts l, sItms (l.map Inst.op), eI (e : Int), .agg (eSt s)] (val (.bool v))
  | 0, e, he, v, r, hn, _ => by omega
  | n + 1, e, he, v, r, hn, hr => by
    refine adet_of_code mixedT Tryz.func130 rfl (by decide) Tryz.ntmps130 Tryz.results130 rfl (val_ok _) ?_
    obtain ⟨r0, h1, h2⟩ := rg_some he hr
    have hel : e < (l.map Inst.op).length := by simpa using he
    have eo : (l.map Inst.op)[e] = l[e].op := by simp
    have ih := at16_A l s hl ho hd n
    have z1 : (0 : Int) < ((1 : Nat) : Int) := by decide
    have z2 : (0 : Int) < ((2 : Nat) : Int) := by decide
    have z3 : (1 : Int) < ((2 : Nat) : Int) := by decide
    generalize hx : l[e] = x at h2 eo
    obtain ⟨op, la, ln, ra, rn, xn, u⟩ := x
    have ex : eInst l[e] = [eI op, eI la, eI ln, eI ra, eI rn, eI xn, eI u] := by rw [hx]
    simp only at eo
    unfold stepG at h2
    simp only at h2
    split at h2
    · rename_i hop
      have ha : arity (l.map Inst.op)[e] = 0 := by rw [eo]; unfold arity; rw [if_pos (by omega)]
      have hk := kids0_A (l.map Inst.op) e hel ha
      simp at h2
      rcases hop with rfl | rfl
      · have hv : v = true := by rw [← h2.1]; rfl
        subst hv
        (repeat' (first | simp (maxSteps := 5000000) (implicitDefEqProofs := false) only [ruA, ruB, aEv, aTake, aLoad, aIndex, ASt.get, aget, ASt.put, aStore, aBox, aCells, oneC, oneCL, Value.cells, Value.oneCell', envOf, ↓reduceIte, reduceCtorEq, Nat.reduceLT, Nat.reduceEqDiff, Nat.reduceAdd, eq_self, tyE_82, tyA_136, tyS_136, tyZ_136, row_at, he, ex] | (with_reducible refine aIf_split (fun _ => ?_) (fun _ => ?_)) | (with_reducible refine aSel_split (fun _ => ?_) (fun _ => ?_)) | (with_reducible refine aGd_split (fun _ => ?_) (fun _ => ?_))))
        refine callV hk ?_
        have e1 : ((1 : Int) == 1) = true := by decide
        (repeat' (first | simp (maxSteps := 5000000) (implicitDefEqProofs := false) only [ruA, ruB, aEv, aTake, aLoad, aField, aBin, bin2, ASt.get, aget, ASt.put, aResL, aOne, ↓reduceIte, reduceCtorEq, Nat.reduceLT, Nat.reduceEqDiff, Nat.reduceAdd, Nat.reduceLeDiff, eq_self, tyF_136_0, tyA_3, tyS_3, e1] | (with_reducible refine aIf_split (fun _ => ?_) (fun _ => ?_)) | (with_reducible refine aSel_split (fun _ => ?_) (fun _ => ?_)) | (with_reducible refine aGd_split (fun _ => ?_) (fun _ => ?_))))
      · have hv : v = false := by rw [← h2.1]; rfl
        subst hv
        (repeat' (first | simp (maxSteps := 5000000) (implicitDefEqProofs := false) only [ruA, ruB, aEv, aTake, aLoad, aIndex, ASt.get, aget, ASt.put, aStore, aBox, aCells, oneC, oneCL, Value.cells, Value.oneCell', envOf, ↓reduceIte, reduceCtorEq, Nat.reduceLT, Nat.reduceEqDiff, Nat.reduceAdd, eq_self, tyE_82, tyA_136, tyS_136, tyZ_136, row_at, he, ex] | (with_reducible refine aIf_split (fun _ => ?_) (fun _ => ?_)) | (with_reducible refine aSel_split (fun _ => ?_) (fun _ => ?_)) | (with_reducible refine aGd_split (fun _ => ?_) (fun _ => ?_))))
        refine callV hk ?_
        (repeat' (first | simp (maxSteps := 5000000) (implicitDefEqProofs := false) only [ruA, ruB, aEv, aTake, aLoad, aField, aBin, bin2, ASt.get, aget, ASt.put, aResL, aOne, ↓reduceIte, reduceCtorEq, Nat.reduceLT, Nat.reduceEqDiff, Nat.reduceAdd, Nat.reduceLeDiff, eq_self, tyF_136_0, tyA_3, tyS_3, Int.reduceBEq] | (with_reducible refine aIf_split (fun _ => ?_) (fun _ => ?_)) | (with_reducible refine aSel_split (fun _ => ?_) (fun _ => ?_)) | (with_reducible refine aGd_split (fun _ => ?_) (fun _ => ?_))))
    split at h2
    · rename_i hop
      have ha : arity (l.map Inst.op)[e] = 0 := by rw [eo]; unfold arity; rw [if_pos (by omega)]
      have hk := kids0_A (l.map Inst.op) e hel ha
      split at h2
      · rename_i c hc
        obtain ⟨a, b, hva, hvb, rfl⟩ := valO_of hc
        simp only at hva hvb
        cases h2
        have h6 : op = 3 ∨ op = 4 ∨ op = 5 ∨ op = 6 ∨ op = 7 ∨ op = 8 := by omega
        rcases h6 with rfl | rfl | rfl | rfl | rfl | rfl
        all_goals
          (repeat' (first | simp (maxSteps := 5000000) (implicitDefEqProofs := false) only [ruA, ruB, aEv, aTake, aLoad, aIndex, ASt.get, aget, ASt.put, aStore, aBox, aCells, oneC, oneCL, Value.cells, Value.oneCell', envOf, ↓reduceIte, reduceCtorEq, Nat.reduceLT, Nat.reduceEqDiff, Nat.reduceAdd, eq_self, tyE_82, tyA_136, tyS_136, tyZ_136, row_at, he, ex] | (with_reducible refine aIf_split (fun _ => ?_) (fun _ => ?_)) | (with_reducible refine aSel_split (fun _ => ?_) (fun _ => ?_)) | (with_reducible refine aGd_split (fun _ => ?_) (fun _ => ?_))))
          refine callV hk ?_
          (repeat' (first | simp (maxSteps := 5000000) (implicitDefEqProofs := false) only [ruA, ruB, aEv, aTake, aLoad, aField, aBin, bin2, ASt.get, aget, ASt.put, ↓reduceIte, reduceCtorEq, Nat.reduceLT, Nat.reduceEqDiff, Nat.reduceAdd, Nat.reduceLeDiff, eq_self, tyF_136_0, tyA_3, tyS_3, Int.reduceBEq] | (with_reducible refine aIf_split (fun _ => ?_) (fun _ => ?_)) | (with_reducible refine aSel_split (fun _ => ?_) (fun _ => ?_)) | (with_reducible refine aGd_split (fun _ => ?_) (fun _ => ?_))))
          refine aDraw_quiet (by kernel_rfl) ?_
          (repeat' (first | simp (maxSteps := 5000000) (implicitDefEqProofs := false) only [ruA, ruB, aEv, aTake, aLoad, aField, ASt.get, aget, ASt.put, aResL, aOne, ↓reduceIte, reduceCtorEq, Nat.reduceLT, Nat.reduceEqDiff, Nat.reduceAdd, Nat.reduceLeDiff, eq_self, dref, dref1, tyF_136_0, tyA_3, tyS_3, tyA_35, tyS_35, tyF_136_1, tyA_134, tyS_134, tyF_136_2] | (with_reducible refine aIf_split (fun _ => ?_) (fun _ => ?_)) | (with_reducible refine aSel_split (fun _ => ?_) (fun _ => ?_)) | (with_reducible refine aGd_split (fun _ => ?_) (fun _ => ?_))))
          refine callD (valR_A s la ln a hva) ?_
          (repeat' (first | simp (maxSteps := 5000000) (implicitDefEqProofs := false) only [ruA, ruB, aEv, aTake, aLoad, aField, aIndex, aLen, aBin, bin2, aUn, un1, aExtract, aConv, ASt.get, aget, ASt.put, aStore, aBox, aAppend, aBuildSlice, aMake, aBuild, aFill, oneParts, allC, aBinS, yv, aCells, oneC, oneCL, treeC, treeL, aLit, aDst, aSrc, appTab, Value.cells, Value.oneCell', envOf, aResL, aOne, ↓reduceIte, reduceCtorEq, forall_const, Nat.reduceLT, Nat.reduceEqDiff, Nat.reduceAdd, Nat.reduceMul, Nat.reduceSub, Nat.reduceLeDiff, Nat.reduceBEq, eq_self, implies_true, ne_eq, dref, dref1, dref2, aExecS, aStoreB, aTakes, aTakeE, aElder, aFrom, aFresh, isLoad, aBuildSlice1, frzs, frz1, ownIds, AV.frz, AV.frzL, frzEnv, AV.shift, AV.shiftL, aFieldV, aSliceW, aSliceO, aSlice, aSliceR, aSliceS, aBd, aMax, frzAVs, frzAV, frzTab, AObj.frz, aMM, aNilS, aMay, tyE_82, tyA_136, tyS_136, tyZ_136, tyF_136_0, tyA_3, tyS_3, tyK_3, tyF_35_1, tyF_136_3, tyF_35_2, tyE_33, tyA_35, tyS_35, tyF_136_1, tyA_134, tyS_134, tyF_136_2] | (with_reducible refine aIf_split (fun _ => ?_) (fun _ => ?_)) | (with_reducible refine aSel_split (fun _ => ?_) (fun _ => ?_)) | (with_reducible refine aGd_split (fun _ => ?_) (fun _ => ?_))))
          refine callD (valR_A s ra rn b hvb) ?_
          (repeat' (first | simp (maxSteps := 5000000) (implicitDefEqProofs := false) only [ruA, ruB, aEv, aTake, aLoad, aField, aIndex, aLen, aBin, bin2, aUn, un1, aExtract, aConv, ASt.get, aget, ASt.put, aStore, aBox, aAppend, aBuildSlice, aMake, aBuild, aFill, oneParts, allC, aBinS, yv, aCells, oneC, oneCL, treeC, treeL, aLit, aDst, aSrc, appTab, Value.cells, Value.oneCell', envOf, aResL, aOne, ↓reduceIte, reduceCtorEq, forall_const, Nat.reduceLT, Nat.reduceEqDiff, Nat.reduceAdd, Nat.reduceMul, Nat.reduceSub, Nat.reduceLeDiff, Nat.reduceBEq, eq_self, implies_true, ne_eq, dref, dref1, dref2, aExecS, aStoreB, aTakes, aTakeE, aElder, aFrom, aFresh, isLoad, aBuildSlice1, frzs, frz1, ownIds, AV.frz, AV.frzL, frzEnv, AV.shift, AV.shiftL, aFieldV, aSliceW, aSliceO, aSlice, aSliceR, aSliceS, aBd, aMax, frzAVs, frzAV, frzTab, AObj.frz, aMM, aNilS, aMay, tyE_82, tyA_136, tyS_136, tyZ_136, tyF_136_0, tyA_3, tyS_3, tyK_3, tyF_35_1, tyF_136_3, tyF_35_2, tyE_33, tyA_35, tyS_35, tyF_136_1, tyA_134, tyS_134, tyF_136_2] | (with_reducible refine aIf_split (fun _ => ?_) (fun _ => ?_)) | (with_reducible refine aSel_split (fun _ => ?_) (fun _ => ?_)) | (with_reducible refine aGd_split (fun _ => ?_) (fun _ => ?_))))
          refine callD (cmpR_A _ a b) ?_
          (repeat' (first | simp (maxSteps := 5000000) (implicitDefEqProofs := false) only [eq_self] | (with_reducible refine aIf_split (fun _ => ?_) (fun _ => ?_)) | (with_reducible refine aSel_split (fun _ => ?_) (fun _ => ?_)) | (with_reducible refine aGd_split (fun _ => ?_) (fun _ => ?_))))
      · cases h2
    split at h2
    · rename_i hop
      have ha : arity (l.map Inst.op)[e] = 0 := by rw [eo]; unfold arity; rw [if_pos (by omega)]
      have hk := kids0_A (l.map Inst.op) e hel ha
      subst hop
      cases h2
      (repeat' (first | simp (maxSteps := 5000000) (implicitDefEqProofs := false) only [ruA, ruB, aEv, aTake, aLoad, aIndex, ASt.get, aget, ASt.put, aStore, aBox, aCells, oneC, oneCL, Value.cells, Value.oneCell', envOf, ↓reduceIte, reduceCtorEq, Nat.reduceLT, Nat.reduceEqDiff, Nat.reduceAdd, eq_self, tyE_82, tyA_136, tyS_136, tyZ_136, row_at, he, ex] | (with_reducible refine aIf_split (fun _ => ?_) (fun _ => ?_)) | (with_reducible refine aSel_split (fun _ => ?_) (fun _ => ?_)) | (with_reducible refine aGd_split (fun _ => ?_) (fun _ => ?_))))
      refine callV hk ?_
      (repeat' (first | simp (maxSteps := 5000000) (implicitDefEqProofs := false) only [ruA, ruB, aEv, aTake, aLoad, aField, aBin, bin2, ASt.get, aget, ASt.put, ↓reduceIte, reduceCtorEq, Nat.reduceLT, Nat.reduceEqDiff, Nat.reduceAdd, Nat.reduceLeDiff, eq_self, tyF_136_0, tyA_3, tyS_3, tyF_35_1, tyF_136_3, Int.reduceBEq] | (with_reducible refine aIf_split (fun _ => ?_) (fun _ => ?_)) | (with_reducible refine aSel_split (fun _ => ?_) (fun _ => ?_)) | (with_reducible refine aGd_split (fun _ => ?_) (fun _ => ?_))))
      refine callV (hasR_A s.opn xn ho) ?_
      (repeat' (first | simp (maxSteps := 5000000) (implicitDefEqProofs := false) only [ruA, aEv, ASt.get, aget, ASt.put, aResL, aOne, ↓reduceIte, Nat.reduceLT, eq_self] | (with_reducible refine aIf_split (fun _ => ?_) (fun _ => ?_)) | (with_reducible refine aSel_split (fun _ => ?_) (fun _ => ?_)) | (with_reducible refine aGd_split (fun _ => ?_) (fun _ => ?_))))
    split at h2
    · rename_i hop
      have ha : arity (l.map Inst.op)[e] = 0 := by rw [eo]; unfold arity; rw [if_pos (by omega)]
      have hk := kids0_A (l.map Inst.op) e hel ha
      subst hop
      cases h2
      (repeat' (first | simp (maxSteps := 5000000) (implicitDefEqProofs := false) only [ruA, ruB, aEv, aTake, aLoad, aIndex, ASt.get, aget, ASt.put, aStore, aBox, aCells, oneC, oneCL, Value.cells, Value.oneCell', envOf, ↓reduceIte, reduceCtorEq, Nat.reduceLT, Nat.reduceEqDiff, Nat.reduceAdd, eq_self, tyE_82, tyA_136, tyS_136, tyZ_136, row_at, he, ex] | (with_reducible refine aIf_split (fun _ => ?_) (fun _ => ?_)) | (with_reducible refine aSel_split (fun _ => ?_) (fun _ => ?_)) | (with_reducible refine aGd_split (fun _ => ?_) (fun _ => ?_))))
      refine callV hk ?_
      (repeat' (first | simp (maxSteps := 5000000) (implicitDefEqProofs := false) only [ruA, ruB, aEv, aTake, aLoad, aField, aBin, bin2, ASt.get, aget, ASt.put, ↓reduceIte, reduceCtorEq, Nat.reduceLT, Nat.reduceEqDiff, Nat.reduceAdd, Nat.reduceLeDiff, eq_self, tyF_136_0, tyA_3, tyS_3, tyF_136_3, tyF_35_2, Int.reduceBEq] | (with_reducible refine aIf_split (fun _ => ?_) (fun _ => ?_)) | (with_reducible refine aSel_split (fun _ => ?_) (fun _ => ?_)) | (with_reducible refine aGd_split (fun _ => ?_) (fun _ => ?_))))
      refine callV (hasR_A s.don xn hd) ?_
      (repeat' (first | simp (maxSteps := 5000000) (implicitDefEqProofs := false) only [ruA, aEv, ASt.get, aget, ASt.put, aResL, aOne, ↓reduceIte, Nat.reduceLT, eq_self] | (with_reducible refine aIf_split (fun _ => ?_) (fun _ => ?_)) | (with_reducible refine aSel_split (fun _ => ?_) (fun _ => ?_)) | (with_reducible refine aGd_split (fun _ => ?_) (fun _ => ?_))))
    have hpre : ∀ (a : Bool) (q : List Bool), r0 = a :: q → ∃ e0, e = e0 + 1 := fun a q hq => by
      cases e with
      | zero =>
        simp [runG] at h1
        rw [h1] at hq
        cases hq
      | succ e0 => exact ⟨e0, rfl⟩
    split at h2
    · rename_i hop
      have ha : arity (l.map Inst.op)[e] = 1 := by rw [eo]; unfold arity; rw [if_neg (by omega), if_pos (by omega)]
      have hk := kids1_A (l.map Inst.op) e hel ha (by simp; omega)
      subst hop
      split at h2
      · rename_i a q
        obtain ⟨e0, rfl⟩ := hpre a q rfl
        have ee : ((e0 + 1 : Nat) : Int) - 1 = (e0 : Int) := by omega
        rw [ee] at hk
        have h3 := ih e0 (by omega) a q (by omega) h1
        cases h2
        (repeat' (first | simp (maxSteps := 5000000) (implicitDefEqProofs := false) only [ruA, ruB, aEv, aTake, aLoad, aIndex, ASt.get, aget, ASt.put, aStore, aBox, aCells, oneC, oneCL, Value.cells, Value.oneCell', envOf, ↓reduceIte, reduceCtorEq, Nat.reduceLT, Nat.reduceEqDiff, Nat.reduceAdd, eq_self, tyE_82, tyA_136, tyS_136, tyZ_136, row_at, he, ex] | (with_reducible refine aIf_split (fun _ => ?_) (fun _ => ?_)) | (with_reducible refine aSel_split (fun _ => ?_) (fun _ => ?_)) | (with_reducible refine aGd_split (fun _ => ?_) (fun _ => ?_))))
        refine callO hk (.inr (ints_plain (l := [(e0 : Int)]))) ?_
        (repeat' (first | simp (maxSteps := 5000000) (implicitDefEqProofs := false) only [ruA, ruB, aEv, aTake, aLoad, aField, aBin, bin2, ASt.get, aget, ASt.put, ↓reduceIte, reduceCtorEq, Nat.reduceLT, Nat.reduceEqDiff, Nat.reduceAdd, Nat.reduceLeDiff, eq_self, tyF_136_0, tyA_3, tyS_3, Int.reduceBEq] | (with_reducible refine aIf_split (fun _ => ?_) (fun _ => ?_)) | (with_reducible refine aSel_split (fun _ => ?_) (fun _ => ?_)) | (with_reducible refine aGd_split (fun _ => ?_) (fun _ => ?_))))
        refine aDraw_quiet (by kernel_rfl) ?_
        (repeat' (first | simp (maxSteps := 5000000) (implicitDefEqProofs := false) only [ruA, ruB, aEv, aTake, aLoad, aIndex, aUn, un1, ASt.get, aget, ASt.put, aResL, aOne, ↓reduceIte, reduceCtorEq, Nat.reduceLT, Nat.reduceEqDiff, Nat.reduceAdd, eq_self, dref, dref1, tyA_3, tyS_3, tyE_33, tyA_35, tyS_35, Int.toNat_zero, z1] | (with_reducible refine aIf_split (fun _ => ?_) (fun _ => ?_)) | (with_reducible refine aSel_split (fun _ => ?_) (fun _ => ?_)) | (with_reducible refine aGd_split (fun _ => ?_) (fun _ => ?_))))
        refine callD h3 ?_
        (repeat' (first | simp (maxSteps := 5000000) (implicitDefEqProofs := false) only [eq_self] | (with_reducible refine aIf_split (fun _ => ?_) (fun _ => ?_)) | (with_reducible refine aSel_split (fun _ => ?_) (fun _ => ?_)) | (with_reducible refine aGd_split (fun _ => ?_) (fun _ => ?_))))
      · cases h2
    split at h2
    · rename_i hop
      have ha : arity (l.map Inst.op)[e] = 2 := by rw [eo]; unfold arity; rw [if_neg (by omega), if_neg (by omega), if_pos (by omega)]
      have hk := kids2_A (l.map Inst.op) e hel ha (by simp; omega)
      split at h2
      · rename_i b a q
        obtain ⟨e0, rfl⟩ := hpre b (a :: q) rfl
        have ee : ((e0 + 1 : Nat) : Int) - 1 = (e0 : Int) := by omega
        have h3 := ih e0 (by omega) b (a :: q) (by omega) h1
        obtain ⟨bg, h4, h5, h6⟩ := rg_begin (by omega) h1
        have h7 : ∃ b0, bg = b0 + 1 := by
          cases bg with
          | zero => simp [runG] at h6
          | succ b0 => exact ⟨b0, rfl⟩
        obtain ⟨b0, rfl⟩ := h7
        have eb : ((b0 + 1 : Nat) : Int) - 1 = (b0 : Int) := by omega
        rw [ee, h5, eb] at hk
        have h8 := ih b0 (by omega) a q (by omega) h6
        cases h2
        have h9 : op = 16 ∨ op = 17 ∨ op = 18 := by omega
        rcases h9 with rfl | rfl | rfl
        all_goals
          (repeat' (first | simp (maxSteps := 5000000) (implicitDefEqProofs := false) only [ruA, ruB, aEv, aTake, aLoad, aIndex, ASt.get, aget, ASt.put, aStore, aBox, aCells, oneC, oneCL, Value.cells, Value.oneCell', envOf, ↓reduceIte, reduceCtorEq, Nat.reduceLT, Nat.reduceEqDiff, Nat.reduceAdd, eq_self, tyE_82, tyA_136, tyS_136, tyZ_136, row_at, he, ex] | (with_reducible refine aIf_split (fun _ => ?_) (fun _ => ?_)) | (with_reducible refine aSel_split (fun _ => ?_) (fun _ => ?_)) | (with_reducible refine aGd_split (fun _ => ?_) (fun _ => ?_))))
          refine callO hk (.inr (ints_plain (l := [(b0 : Int), (e0 : Int)]))) ?_
          (repeat' (first | simp (maxSteps := 5000000) (implicitDefEqProofs := false) only [ruA, ruB, aEv, aTake, aLoad, aField, aBin, bin2, ASt.get, aget, ASt.put, ↓reduceIte, reduceCtorEq, Nat.reduceLT, Nat.reduceEqDiff, Nat.reduceAdd, Nat.reduceLeDiff, eq_self, tyF_136_0, tyA_3, tyS_3, Int.reduceBEq] | (with_reducible refine aIf_split (fun _ => ?_) (fun _ => ?_)) | (with_reducible refine aSel_split (fun _ => ?_) (fun _ => ?_)) | (with_reducible refine aGd_split (fun _ => ?_) (fun _ => ?_))))
          refine aDraw_quiet (by kernel_rfl) ?_
          (repeat' (first | simp (maxSteps := 5000000) (implicitDefEqProofs := false) only [ruA, ruB, aEv, aTake, aLoad, aIndex, aUn, un1, ASt.get, aget, ASt.put, ↓reduceIte, reduceCtorEq, Nat.reduceLT, Nat.reduceEqDiff, Nat.reduceAdd, eq_self, dref, dref1, tyA_3, tyS_3, tyE_33, tyA_35, tyS_35, Int.toNat_zero, z2] | (with_reducible refine aIf_split (fun _ => ?_) (fun _ => ?_)) | (with_reducible refine aSel_split (fun _ => ?_) (fun _ => ?_)) | (with_reducible refine aGd_split (fun _ => ?_) (fun _ => ?_))))
          refine callD h8 ?_
          (repeat' (first | simp (maxSteps := 5000000) (implicitDefEqProofs := false) only [ruA, ruB, aEv, aTake, aLoad, aIndex, ASt.get, aget, ASt.put, aResL, aOne, ↓reduceIte, reduceCtorEq, Nat.reduceLT, Nat.reduceEqDiff, Nat.reduceAdd, eq_self, dref, dref1, tyA_3, tyS_3, tyE_33, tyA_35, tyS_35, Int.reduceLE, z3, Int.toNat_one] | (with_reducible refine aIf_split (fun _ => ?_) (fun _ => ?_)) | (with_reducible refine aSel_split (fun _ => ?_) (fun _ => ?_)) | (with_reducible refine aGd_split (fun _ => ?_) (fun _ => ?_))))
          all_goals first | (refine callD h3 ?_; (repeat' (first | simp (maxSteps := 5000000) (implicitDefEqProofs := false) only [ruB] | (with_reducible refine aIf_split (fun _ => ?_) (fun _ => ?_)) | (with_reducible refine aSel_split (fun _ => ?_) (fun _ => ?_)) | (with_reducible refine aGd_split (fun _ => ?_) (fun _ => ?_))))) | skip
          all_goals first | rfl | (simp_all; done)
      · cases h2
    · cases h2
end
section
open Go.RowKit

/-- steps up, from wherever -/
theorem up_rest (l : List Int) (i : Int) (k d : Nat) (x : Int) (h : upN l i k = norm l x) (hx : ¬ isAt l x) : upN l i (k + d) = -1 :=
  upN_none l i k (by rw [h]; exact ((norm_cases l x).resolve_left fun hh => hx hh.1).2) d

set_option maxHeartbeats 1000000 in
theorem up_any (l : List Int) (v : Value) (i n : Int) (w : World) (hl : l.length ≤ 1073741824) (hn0 : 0 ≤ n) (hn : n ≤ 4294967296) (hv : RI w v l) :
    Calls Tryz.prog 95 #[v, .int .i64 i, .int .i64 n] w fun e w' => e = .returned (.int .i64 (upN l i n.toNat)) ∧ w = w' := by
  obtain ⟨A, c, rfl, hc⟩ := hv.form
  obtain ⟨N, rfl⟩ := Int.eq_ofNat_of_zero_le hn0
  rw [Int.toNat_natCast]
  go_enter Tryz.func95, Tryz.ntmps95
  go_wp2_with fail
  go_loop [1, 7] (fun x j => ∃ (k : Nat) (y : Int), k ≤ N ∧ j = .int .i64 (k : Int) ∧ x = .int .i64 y ∧ upN l i k = norm l y) (fun x j => N - (intOf j).toNat)
  case atStart => exact ⟨0, i, Nat.zero_le _, rfl, rfl, rfl⟩
  case round =>
    obtain ⟨k, y, hk, rfl, rfl, hup⟩ := hrel
    by_cases hlt : k < N
    · by_cases hy : isAt l y
      · obtain ⟨hy1, hy2⟩ := hy
        obtain ⟨z, rfl⟩ := Int.eq_ofNat_of_zero_le hy1
        obtain ⟨b, o, rfl, hcell, hb1, hb2⟩ := hv.at_ (show z < l.length by omega)
        have e : upN l i (k + 1) = norm l (l.getD z 0) := by
          show par l (upN l i k) = _
          rw [hup, par_norm]
          unfold par
          rw [if_pos ⟨hy1, hy2⟩]; simp
        have E := hide e
        clear hup e
        generalize l.getD z 0 = y' at *
        go_wp2_with fail
        go_round
        case rel => exact ⟨k + 1, y', by omega, by go_num, rfl, E.out⟩
        case measure => simp [intOf]; omega
      · have e := up_rest l i k (N - k) y hup hy
        rw [show k + (N - k) = N from by omega] at e
        have E := hide e
        clear e hup
        by_cases h0 : 0 ≤ y
        · have h1 : (l.length : Int) ≤ y := by unfold isAt at hy; omega
          clear hy
          go_wp2_with fail
          go_ret
          rw [E.out]; exact ⟨rfl, rfl⟩
        · clear hy
          go_wp2_with fail
          go_ret
          rw [E.out]; exact ⟨rfl, rfl⟩
    · obtain rfl : k = N := by omega
      by_cases hy : isAt l y
      · have e : upN l i k = y := by rw [hup]; exact ((norm_cases l y).resolve_right fun hh => hh.1 hy).2
        have E := hide e
        clear e hup
        obtain ⟨hy1, hy2⟩ := hy
        go_wp2_with fail
        go_ret
        rw [E.out]; exact ⟨rfl, rfl⟩
      · have e : upN l i k = -1 := by rw [hup]; exact ((norm_cases l y).resolve_left fun hh => hy hh.1).2
        have E := hide e
        clear e hup
        by_cases h0 : 0 ≤ y
        · have h1 : (l.length : Int) ≤ y := by unfold isAt at hy; omega
          clear hy
          go_wp2_with fail
          go_ret
          rw [E.out]; exact ⟨rfl, rfl⟩
        · clear hy
          go_wp2_with fail
          go_ret
          rw [E.out]; exact ⟨rfl, rfl⟩

noncomputable instance (l : List Int) (a i : Int) : Decidable (isL l a i) := Classical.propDecidable _
set_option maxHeartbeats 1000000 in
theorem is_any (l : List Int) (v : Value) (a i : Int) (w : World) (hl : l.length ≤ 1073741824) (hv : RI w v l) :
    Calls Tryz.prog 64 #[v, .int .i64 a, .int .i64 i] w fun e w' => e = .returned (.bool (decide (isL l a i))) ∧ w = w' := by
  obtain ⟨A, c, rfl, hc⟩ := hv.form
  go_enter Tryz.func64, Tryz.ntmps64
  go_wp2_with fail
  go_loop [7] (fun j => ∃ k : Nat, 1 ≤ k ∧ k ≤ l.length + 1 ∧ j = .int .i64 (k : Int) ∧ ∀ m, 1 ≤ m → m < k → ¬ (0 ≤ a ∧ upN l i m = a)) (fun j => l.length + 1 - (intOf j).toNat)
  case atStart => exact ⟨1, Nat.le_refl _, by omega, rfl, fun m h1 h2 => by omega⟩
  case round =>
    obtain ⟨k, hk1, hk, rfl, hno⟩ := hrel
    have Hno := hide hno
    clear hno
    by_cases hlt : k ≤ l.length
    · have hup := up_any l _ i (k : Int) w hl (by omega) (by omega) hv
      rw [Int.toNat_natCast] at hup
      have hyes : 0 ≤ a → upN l i k = a → decide (isL l a i) = true := fun h1 h2 => decide_eq_true ⟨k, hk1, hlt, h1, h2⟩
      have hnext : ¬ (0 ≤ a ∧ upN l i k = a) → ∀ m, 1 ≤ m → m < k + 1 → ¬ (0 ≤ a ∧ upN l i m = a) := fun h m h1 h2 => by
        by_cases e : m = k
        · subst e; exact h
        · exact Hno.out m h1 (by omega)
      have Hup := hide hup
      have Hyes := hide hyes
      have Hnext := hide hnext
      clear hup hyes hnext Hno
      generalize upN l i k = y at *
      by_cases h0 : 0 ≤ a
      · by_cases h1 : y = a
        · have h2 : (y == a) = true := by simpa using h1
          have E := hide (Hyes.out h0 h1)
          clear h1
          go_wp2_with (go_at_call 95; refine Hup.out.mono ?_; rintro e w' ⟨rfl, rfl⟩)
          go_ret
          rw [E.out]; exact ⟨rfl, rfl⟩
        · have h2 : (y == a) = false := by simpa using h1
          have E := hide (Hnext.out (fun hh => h1 hh.2))
          clear h1
          go_wp2_with (go_at_call 95; refine Hup.out.mono ?_; rintro e w' ⟨rfl, rfl⟩)
          go_round
          case rel => exact ⟨k + 1, by omega, by omega, by go_num, E.out⟩
          case measure => simp [intOf]; omega
      · have E := hide (Hnext.out (fun hh => h0 hh.1))
        go_wp2_with fail
        go_round
        case rel => exact ⟨k + 1, by omega, by omega, by go_num, E.out⟩
        case measure => simp [intOf]; omega
    · have e : decide (isL l a i) = false := by
        refine decide_eq_false fun ⟨m, h1, h2, h3, h4⟩ => Hno.out m h1 (by omega) ⟨h3, h4⟩
      have E := hide e
      clear e
      go_wp2_with fail
      go_ret
      rw [E.out]; exact ⟨rfl, rfl⟩
end
section
open Go.RowKit

def fl (p : Nat → Bool) (k : Nat) : List Int := ((List.range k).filter p).map fun (n : Nat) => (n : Int)
theorem fl_yes (p : Nat → Bool) (k : Nat) (h : p k = true) : fl p (k + 1) = fl p k ++ [(k : Int)] := by simp [fl, List.range_succ, h]
theorem fl_no (p : Nat → Bool) (k : Nat) (h : p k = false) : fl p (k + 1) = fl p k := by simp [fl, List.range_succ, h]
theorem fl_len (p : Nat → Bool) (k : Nat) : (fl p k).length ≤ k := by
  have := List.length_filter_le p (List.range k)
  simpa [fl] using this
theorem above_at (l : List Int) (i : Int) : ∀ x ∈ aboveL l i, isAt l x := by
  obtain ⟨m, p, h, _⟩ := up_end l i
  exact h.at_
theorem above_len (l : List Int) (i : Int) : (aboveL l i).length ≤ l.length := by
  obtain ⟨m, p, h, _⟩ := up_end l i
  rw [h.len]; exact h.room
theorem RI.list {w : World} {base : Nat} {v : Value} {n : Nat} {l L : List Int} (h : w.ownsRow base 3 1 v n (L.map (Value.int .i64))) (hx : ∀ x ∈ L, isAt l x) (hl : l.length ≤ 1073741824) : RI w v L :=
  RI.own h fun x hh => by have := hx x hh; unfold isAt at this; omega
end
section
open Go.RowKit

/-- one round's end of a loop that gathers places -/
theorem fl_rel {p : Nat → Bool} {k : Nat} {w wr : World} {v v2 : Value} {w1 w2 : World} (h : p k = true) (hb : Below w.heap.size w wr) (hb1 : Below wr.heap.size wr w1)
    (hown : w1.ownsRow w.heap.size 3 1 v (fl p k).length ((fl p k).map (Value.int .i64)))
    (hown2 : w2.ownsRow w.heap.size 3 1 v2 ((fl p k).length + 1) ((fl p k).map (Value.int .i64) ++ [Value.int .i64 (k : Int)])) (hg2 : (w1.alloc (.cells #[.int .i64 (k : Int)] 3)).grownBy w2 v.ownBlock) :
    w2.ownsRow w.heap.size 3 1 v2 (fl p (k + 1)).length ((fl p (k + 1)).map (Value.int .i64)) ∧ Below w.heap.size w w2 := by
  have hb0 := hb.trans (hb1.mono hb.size)
  refine ⟨?_, (hb0.alloc hb0.size _).grown hg2 (by have := hb0.size; simp; omega) (fun g hg => (hown.lt g hg).1)⟩
  rw [fl_yes p k h, List.length_append, List.map_append]
  exact hown2

set_option maxHeartbeats 1000000 in
set_option maxRecDepth 100000 in
theorem below_any (l : List Int) (v : Value) (i : Int) (w : World) (hl : l.length ≤ 1073741824) (hv : RI w v l) :
    Calls Tryz.prog 111 #[v, .int .i64 i] w (ListPost (belowL l i) w) := by
  obtain ⟨i0, hi0, hz0, hz1, hz2⟩ := info_parts intInfo
  obtain ⟨A, c, rfl, hc⟩ := hv.form
  by_cases hi : isAt l i
  · obtain ⟨p, hp⟩ : ∃ p : Nat → Bool, p = fun (k : Nat) => decide ((k : Int) ≠ i ∧ i ∈ aboveL l (k : Int)) := ⟨_, rfl⟩
    have e : belowL l i = fl p l.length := by unfold belowL; rw [if_pos hi, hp]; rfl
    rw [e]
    have Hp := hide hp
    clear hp e
    obtain ⟨hi1, hi2⟩ := hi
    go_enter Tryz.func111, Tryz.ntmps111
    go_wp2_with fail
    go_loopw [5, 18] (fun u j wr => ∃ k : Nat, k ≤ l.length ∧ j = .int .i64 (k : Int) ∧ wr.ownsRow w.heap.size 3 1 u (fl p k).length ((fl p k).map (Value.int .i64)) ∧ Below w.heap.size w wr) (fun u j wr => l.length - (intOf j).toNat)
    case atStart => exact ⟨0, Nat.zero_le _, rfl, World.ownsRow_nil _ _ _ _, Below.refl _ _⟩
    case round =>
      obtain ⟨k, hk, rfl, hown, hb⟩ := hrel
      have hfl := fl_len p k
      by_cases hlt : k < l.length
      · have hv1 := hv.below hb
        by_cases hki : (k : Int) = i
        · have h1 : ((k : Int) != i) = false := by simp [hki]
          have hpk : p k = false := by rw [Hp.out]; simp [hki]
          have E := hide (fl_no p k hpk)
          clear hki hpk
          go_wp2_with fail
          go_roundw
          case rel => exact ⟨k + 1, by omega, by go_num, by rw [E.out]; exact hown, hb⟩
          case measure => simp [intOf]; omega
        · have h1 : ((k : Int) != i) = true := by simp [hki]
          have ha := above_any l _ (k : Int) wr hl hv1
          have hab := above_at l (k : Int)
          have hal := above_len l (k : Int)
          have hpk : p k = decide (i ∈ aboveL l (k : Int)) := by rw [Hp.out]; simp [hki]
          generalize aboveL l (k : Int) = L at *
          have Ha := hide ha
          have Hab := hide hab
          have Hpk := hide hpk
          clear ha hab hpk hki
          by_cases hm : i ∈ L
          · have hpk : p k = true := by rw [Hpk.out]; exact decide_eq_true hm
            have HP := hide hpk
            have hd := decide_eq_true hm
            clear hpk hm
            have HD := hide hd
            clear hd
            go_wp2_with fail
            refine Ha.out.mono ?_
            rintro e w1 ⟨v1, rfl, hown1, hb1⟩
            have hri := RI.list hown1 Hab.out hl
            have hcn := contains_any L v1 i w1 (by omega) hri
            rw [HD.out] at hcn
            have Hcn := hide hcn
            have hownk := own_below' hown hb1
            have hb0 := hb.trans (hb1.mono hb.size)
            clear hcn hown
            obtain ⟨A', c', rfl, hc'⟩ := own_form hownk
            go_wp2_with (first
              | (go_at_call 127; refine Hcn.out.mono ?_; rintro e w2 ⟨rfl, rfl⟩)
              | (at_builtin; refine wpList_append_own _ rfl (.tmp 31) (.tmp 33) 33 rfl w.heap.size 3 i0 _ 1 8 Tryz.underlying33 hi0 hz0 hz1 hz2 rfl (by omega) _ (fl p k).length _ rfl (hownk.alloc _) ⟨w1.heap.size, 0, none⟩ 1 1 [.int .i64 (k : Int)] rfl rfl (one_new _ _ _) (one_one _) (by unfold maxLen; omega) (by omega) (by have := hb0.size; simp; omega) ?_; intro v2 w2 hown2 hg2 _))
            go_roundw
            case rel => exact ⟨k + 1, by omega, by go_num, fl_rel HP.out hb hb1 hownk hown2 hg2⟩
            case measure => simp [intOf]; omega
          · have hpk : p k = false := by rw [Hpk.out]; exact decide_eq_false hm
            have E := hide (fl_no p k hpk)
            have HD := hide (decide_eq_false hm)
            clear hpk hm
            go_wp2_with fail
            refine Ha.out.mono ?_
            rintro e w1 ⟨v1, rfl, hown1, hb1⟩
            have hri := RI.list hown1 Hab.out hl
            have hcn := contains_any L v1 i w1 (by omega) hri
            rw [HD.out] at hcn
            have Hcn := hide hcn
            have hownk := own_below' hown hb1
            have hb0 := hb.trans (hb1.mono hb.size)
            clear hcn hown
            go_wp2_with (go_at_call 127; refine Hcn.out.mono ?_; rintro e w2 ⟨rfl, rfl⟩)
            go_roundw
            case rel => exact ⟨k + 1, by omega, by go_num, by rw [E.out]; exact hownk, hb0⟩
            case measure => simp [intOf]; omega
      · obtain rfl : k = l.length := by omega
        go_wp2_with fail
        go_ret
        exact ⟨_, rfl, hown, hb⟩
  · have e : belowL l i = [] := by unfold belowL; rw [if_neg hi]
    rw [e]
    clear e
    by_cases h0 : 0 ≤ i
    · have h1 : (l.length : Int) ≤ i := by unfold isAt at hi; omega
      go_enter Tryz.func111, Tryz.ntmps111
      go_wp2_with fail
      go_ret
      exact ⟨_, rfl, World.ownsRow_nil _ _ _ _, Below.refl _ _⟩
    · go_enter Tryz.func111, Tryz.ntmps111
      go_wp2_with fail
      go_ret
      exact ⟨_, rfl, World.ownsRow_nil _ _ _ _, Below.refl _ _⟩
end
section
open Go.RowKit

theorem own_take {w : World} {base : Nat} {e : TypeId} {g n c : Nat} {xs : List Value} (h : w.ownsRow base e 1 (.slice (some ⟨g, 0, none⟩) n c) n xs) {k : Nat} (hk : k ≤ n) : w.ownsRow base e 1 (.slice (some ⟨g, 0, none⟩) k c) k (xs.take k) := by
  obtain ⟨hl, h | ⟨g', cap, cur, hv, hb, hg, hn, hm, hs, ht⟩⟩ := h
  · exact absurd h.1 (by simp)
  · simp at hv
    obtain ⟨rfl, rfl⟩ := hv
    refine ⟨by simp at hl ⊢; omega, .inr ⟨g, c, cur, rfl, hb, hg, by omega, hm, hs, ?_⟩⟩
    rw [← ht, List.take_take]
    congr 1
    omega
theorem cellOne_new (w : World) (v : Value) (t : TypeId) : ∀ j u, [v][j]? = some u → (w.alloc (.cells #[v] t)).cell? ((⟨w.heap.size, 0, none⟩ : Addr).add j) = some u := cells_new w [v] t
theorem cellOne_drew (w : World) (v : Value) (t : TypeId) : ∀ j u, [v][j]? = some u → ((w.alloc (.cells #[v] t)).drew).cell? ((⟨w.heap.size, 0, none⟩ : Addr).add j) = some u := cells_new w [v] t
theorem nodeInfo : (Tryz.prog.info? 214).map (fun i => (i.zero, i.size, i.bytes)) = some (some .nilIface, 1, 16) := by kernel_rfl

theorem oneIface (t : TypeId) (x : Value) : ∀ u ∈ [Value.iface t x], u.oneCell' = true := by intro u hu; simp at hu; subst hu; rfl
def ifc (p : TypeId × Value) : Value := .iface p.1 p.2
def PushPost (base d : Nat) (ok : Bool) (w : World) (B : Nat) (e : Ending) (w' : World) : Prop := ∃ v xs, e = .returned (.tuple #[v, .bool ok]) ∧ w'.ownsRow base 214 1 v d (List.map ifc xs) ∧ Below B w w'

set_option maxRecDepth 100000 in
set_option maxHeartbeats 1000000 in
theorem push0 (op i : Int) (v : Value) (n base B : Nat) (xs : List (TypeId × Value)) (w : World) (ho : arity op = 0) (hown : w.ownsRow base 214 1 v n (xs.map ifc)) (hn : n ≤ 1000) (hB : B ≤ base) (hb : base ≤ w.heap.size) :
    Calls Tryz.prog 167 #[v, .int .i64 op, .int .i64 i] w (PushPost base (n + 1) true w B) := by
  obtain ⟨i0, hi0, hz0, hz1, hz2⟩ := info_parts nodeInfo
  have Ho := hide ho
  clear ho
  obtain ⟨A, c, rfl, hc⟩ := own_form hown
  go_enter Tryz.func167, Tryz.ntmps167
  go_wp2_with (first
    | (go_at_call 168; refine (arity_any _ _).mono ?_; rintro e w' ⟨rfl, rfl⟩; rw [Ho.out])
    | (at_builtin; refine wpList_append_own _ rfl _ _ 221 rfl base 214 i0 .nilIface 1 16 Tryz.underlying221 hi0 hz0 hz1 hz2 rfl (by decide) _ _ _ rfl (hown.alloc _) ⟨w.heap.size, 0, none⟩ 1 1 [.iface 225 (.agg #[.int .i64 i])] rfl rfl (cellOne_new _ _ _) (oneIface _ _) (by unfold maxLen; omega) (by omega) (by simp; omega) ?_; intro v' w1 hown' hgrow _))
  go_ret2
  exact ⟨v', xs ++ [(225, .agg #[.int .i64 i])], rfl, by rw [List.map_append]; exact hown', ((Below.refl _ _).alloc (by omega) _).grown hgrow (by simp; omega) (fun k hk => by have := (hown.lt k hk).1; omega)⟩

set_option maxRecDepth 100000 in
set_option maxHeartbeats 1000000 in
theorem push1 (op i : Int) (v : Value) (n base B : Nat) (xs : List (TypeId × Value)) (w : World) (ho : arity op = 1) (h1 : 1 ≤ n) (hown : w.ownsRow base 214 1 v n (xs.map ifc)) (hn : n ≤ 1000) (hB : B ≤ base) (hb : base ≤ w.heap.size) :
    Calls Tryz.prog 167 #[v, .int .i64 op, .int .i64 i] w (PushPost base n true w B) := by
  obtain ⟨i0, hi0, hz0, hz1, hz2⟩ := info_parts nodeInfo
  have Ho := hide ho
  clear ho
  obtain ⟨g, c, rfl, hc, hgb, hgw⟩ := own_some hown (by omega)
  have hlen := hown.1
  rw [List.length_map] at hlen
  obtain ⟨xt, xv, hx⟩ : ∃ xt xv, (xs.map ifc)[n - 1]? = some (.iface xt xv) := ⟨(xs[n - 1]'(by omega)).1, (xs[n - 1]'(by omega)).2, by rw [List.getElem?_map, List.getElem?_eq_getElem (by omega)]; rfl⟩
  have hcell := own_cell hown rfl hx
  have hown2 := own_take hown (k := n - 1) (by omega)
  have Hown := hide hown
  have Hx := hide hx
  have Hlen := hide hlen
  clear hown hx hlen
  go_enter Tryz.func167, Tryz.ntmps167
  go_wp2_with (first
    | (go_at_call 168; refine (arity_any _ _).mono ?_; rintro e w' ⟨rfl, rfl⟩; rw [Ho.out])
    | fail)
  have s1 : IntKind.i64.wrap ((n : Int) - 1) = (n : Int) - 1 := IntWalk.i64_in _ (by omega)
  have s2 : 0 ≤ (n : Int) - 1 := by omega
  have s3 : ((n : Int) - 1).toNat = n - 1 := by omega
  have s4 : (n : Int) - 1 ≤ (c : Int) := by omega
  have s5 : (n : Int) - 1 < (n : Int) := by omega
  go_region_law (refine step_append_lies _ rfl (.tmp 33) (.tmp 42) 221 rfl base 214 i0 .nilIface 1 16 Tryz.underlying221 hi0 hz0 hz1 hz2 rfl (by decide) _ (n - 1) _ rfl (hown2.alloc _).drew ⟨w.heap.size, 0, none⟩ 1 1 [.iface 227 (.agg #[.int .i64 i, .iface xt xv])] rfl rfl (cellOne_drew _ _ _) (oneIface _ _) (by omega) (by unfold maxLen; omega) (by omega) (by simp; omega) _ rfl ?_; intro g2 c2 w2 hown3 hg2 hat hlt)
  have h4 : w2.ownsRow base 214 1 (.slice (some ⟨g2, 0, none⟩) n c2) n (List.map ifc (xs.take (n - 1) ++ [(227, .agg #[.int .i64 i, .iface xt xv])])) := by
    have h := hown3
    rw [List.map_append, List.map_take]
    rw [show n - 1 + 1 = n by omega] at h
    exact h
  have hbl : Below B w w2 := (((Below.refl _ _).alloc (by omega) _).drew).grown hg2 (by simp; omega) (fun k hk => by have := (hown2.lt k hk).1; omega)
  go_wp2_with fail
  go_ret2
  exact ⟨_, _, rfl, h4, hbl⟩

set_option maxRecDepth 100000 in
set_option maxHeartbeats 2000000 in
theorem push2 (op i : Int) (v : Value) (n base B : Nat) (xs : List (TypeId × Value)) (w : World) (ho : arity op = 2) (h1 : 2 ≤ n) (hown : w.ownsRow base 214 1 v n (xs.map ifc)) (hn : n ≤ 1000) (hB : B ≤ base) (hb : base ≤ w.heap.size) :
    Calls Tryz.prog 167 #[v, .int .i64 op, .int .i64 i] w (PushPost base (n - 1) true w B) := by
  obtain ⟨i0, hi0, hz0, hz1, hz2⟩ := info_parts nodeInfo
  have Ho := hide ho
  clear ho
  obtain ⟨g, c, rfl, hc, hgb, hgw⟩ := own_some hown (by omega)
  have hlen := hown.1
  rw [List.length_map] at hlen
  obtain ⟨xt, xv, hx⟩ : ∃ xt xv, (xs.map ifc)[n - 1]? = some (.iface xt xv) := ⟨(xs[n - 1]'(by omega)).1, (xs[n - 1]'(by omega)).2, by rw [List.getElem?_map, List.getElem?_eq_getElem (by omega)]; rfl⟩
  obtain ⟨yt, yv, hy⟩ : ∃ xt xv, (xs.map ifc)[n - 2]? = some (.iface xt xv) := ⟨(xs[n - 2]'(by omega)).1, (xs[n - 2]'(by omega)).2, by rw [List.getElem?_map, List.getElem?_eq_getElem (by omega)]; rfl⟩
  have hcell := own_cell hown rfl hx
  have hcelly := own_cell hown rfl hy
  have hown2 := own_take hown (k := n - 2) (by omega)
  have Hown := hide hown
  have Hx := hide hx
  have Hy := hide hy
  have Hlen := hide hlen
  clear hown hx hlen hy
  go_enter Tryz.func167, Tryz.ntmps167
  go_wp2_with (first
    | (go_at_call 168; refine (arity_any _ _).mono ?_; rintro e w' ⟨rfl, rfl⟩; rw [Ho.out])
    | fail)
  have s1 : IntKind.i64.wrap ((n : Int) - 1) = (n : Int) - 1 := IntWalk.i64_in _ (by omega)
  have s2 : 0 ≤ (n : Int) - 1 := by omega
  have s3 : ((n : Int) - 1).toNat = n - 1 := by omega
  have s5 : (n : Int) - 1 < (n : Int) := by omega
  have s6 : IntKind.i64.wrap ((n : Int) - 2) = (n : Int) - 2 := IntWalk.i64_in _ (by omega)
  have s7 : 0 ≤ (n : Int) - 2 := by omega
  have s8 : ((n : Int) - 2).toNat = n - 2 := by omega
  have s9 : (n : Int) - 2 ≤ (c : Int) := by omega
  have s10 : (n : Int) - 2 < (n : Int) := by omega
  have s11 : (1 : Int) ≤ (n : Int) := by omega
  have s12 : (2 : Int) ≤ (n : Int) := by omega
  go_region_law (refine step_append_lies _ rfl (.tmp 54) (.tmp 68) 221 rfl base 214 i0 .nilIface 1 16 Tryz.underlying221 hi0 hz0 hz1 hz2 rfl (by decide) _ (n - 2) _ rfl (hown2.alloc _).drew ⟨w.heap.size, 0, none⟩ 1 1 [.iface 229 (.agg #[.int .i64 i, .iface yt yv, .iface xt xv])] rfl rfl (cellOne_drew _ _ _) (oneIface _ _) (by omega) (by unfold maxLen; omega) (by omega) (by simp; omega) _ rfl ?_; intro g2 c2 w2 hown3 hg2 hat hlt)
  all_goals
    have h4 : w2.ownsRow base 214 1 (.slice (some ⟨g2, 0, none⟩) (n - 2 + 1) c2) (n - 1) (List.map ifc (xs.take (n - 2) ++ [(229, .agg #[.int .i64 i, .iface yt yv, .iface xt xv])])) := by
      have h := hown3
      rw [List.map_append, List.map_take]
      rw [show n - 2 + 1 = n - 1 by omega] at h ⊢
      exact h
    have hbl : Below B w w2 := (((Below.refl _ _).alloc (by omega) _).drew).grown hg2 (by simp; omega) (fun k hk => by have := (hown2.lt k hk).1; omega)
    go_wp2_with fail
    go_ret2
    exact ⟨_, _, rfl, h4, hbl⟩

set_option maxRecDepth 100000 in
set_option maxHeartbeats 1000000 in
theorem pushNo (op i : Int) (v : Value) (n base B : Nat) (xs : List (TypeId × Value)) (w : World) (ho : pushN n op = none) (hown : w.ownsRow base 214 1 v n (xs.map ifc)) (hn : n ≤ 1000) (hB : B ≤ base) (hb : base ≤ w.heap.size) :
    Calls Tryz.prog 167 #[v, .int .i64 op, .int .i64 i] w fun e w' => e = .returned (.tuple #[v, .bool false]) ∧ w = w' := by
  obtain ⟨A, c, rfl, hc⟩ := own_form hown
  have Hown := hide hown
  clear hown
  have key : (arity op = 1 ∧ n = 0) ∨ (arity op = 2 ∧ n = 0) ∨ (arity op = 2 ∧ n = 1) ∨ arity op = -1 := by
    unfold pushN at ho
    have : arity op = 0 ∨ arity op = 1 ∨ arity op = 2 ∨ arity op = -1 := by unfold arity; (repeat' split) <;> simp
    split at ho
    · cases ho
    · split at ho
      · cases ho
      · split at ho
        · cases ho
        · omega
  clear ho
  rcases key with ⟨ho, rfl⟩ | ⟨ho, rfl⟩ | ⟨ho, rfl⟩ | ho
  all_goals
    have Ho := hide ho
    clear ho
    go_enter Tryz.func167, Tryz.ntmps167
    go_wp2_with (first
      | (go_at_call 168; refine (arity_any _ _).mono ?_; rintro e w' ⟨rfl, rfl⟩; rw [Ho.out])
      | fail)
    go_ret2
    exact ⟨rfl, rfl⟩
theorem push_any (op i : Int) (v : Value) (n base B : Nat) (xs : List (TypeId × Value)) (w : World) {d : Nat} (ho : pushN n op = some d) (hown : w.ownsRow base 214 1 v n (xs.map ifc)) (hn : n ≤ 1000) (hB : B ≤ base) (hb : base ≤ w.heap.size) :
    Calls Tryz.prog 167 #[v, .int .i64 op, .int .i64 i] w (PushPost base d true w B) := by
  unfold pushN at ho
  split at ho
  · cases ho; exact push0 op i v n base B xs w (by assumption) hown hn hB hb
  · split at ho
    · rename_i h; cases ho; exact push1 op i v _ base B xs w h.1 h.2 hown hn hB hb
    · split at ho
      · rename_i h; cases ho; exact push2 op i v n base B xs w h.1 h.2 hown hn hB hb
      · cases ho
end
section
open Go.RowKit

theorem rowN_append (a b : List Int) : ∀ d, rowN (a ++ b) d = (rowN a d).bind (rowN b) := by
  induction a with
  | nil => intro d; rfl
  | cons x a ih => intro d; rw [List.cons_append, rowN, rowN]; cases pushN d x <;> simp [ih]
theorem rowN_snoc (a : List Int) (x : Int) (d : Nat) : rowN (a ++ [x]) d = (rowN a d).bind fun d' => pushN d' x := by
  rw [rowN_append]
  cases rowN a d with
  | none => rfl
  | some d' => simp [rowN]; cases pushN d' x <;> rfl
theorem pushN_le {d op : _} {d' : Nat} (h : pushN d op = some d') : d' ≤ d + 1 := by
  unfold pushN at h
  split at h
  · cases h; omega
  · split at h
    · cases h; omega
    · split at h
      · cases h; omega
      · cases h
def BuiltPost (r : Int) (w : World) (e : Ending) (w' : World) : Prop := ∃ v, e = .returned (.tuple #[v, .int .i64 r]) ∧ Below w.heap.size w w'

set_option maxRecDepth 100000 in
set_option maxHeartbeats 2000000 in
theorem built_any (l : List Item) (v : Value) (S : Nat → Prop) (w : World) (h : (sliceR itemR).one w S v l) (hS : ∀ b, S b → b < w.heap.size) :
    Calls Tryz.prog 163 #[v] w (BuiltPost (checkE (l.map Item.op)) w) := by
  obtain ⟨A, c, rfl, hc, hc2⟩ := slice_form h
  by_cases h0 : l.length = 0
  · have e : checkE (l.map Item.op) = 12 := by unfold checkE; rw [if_pos (by simpa using h0)]
    rw [e, h0]
    go_enter Tryz.func163, Tryz.ntmps163
    go_wp2_with fail
    go_ret2
    exact ⟨_, rfl, Below.refl _ _⟩
  · by_cases h1 : 64 < l.length
    · have e : checkE (l.map Item.op) = 3 := by unfold checkE; rw [if_neg (by simpa using h0), if_pos (by simpa using h1)]
      rw [e]
      have hd : (((l.length : Nat) : Int) == 0) = false := beq_eq_false_iff_ne.2 (by omega)
      have hd2 : decide ((64 : Int) < (l.length : Int)) = true := by simp; omega
      go_enter Tryz.func163, Tryz.ntmps163
      go_wp2_with fail
      go_ret2
      exact ⟨_, rfl, Below.refl _ _⟩
    · obtain ⟨b, o, rfl, hSb, hrow⟩ := slice_some h (by omega)
      have e : checkE (l.map Item.op) = if rowN (l.map Item.op) 0 = some 1 then 0 else 17 := by unfold checkE; rw [if_neg (by simpa using h0), if_neg (by simpa using h1)]
      rw [e]
      clear e
      obtain ⟨R, hR⟩ : ∃ R, R = rowN (l.map Item.op) 0 := ⟨_, rfl⟩
      rw [← hR]
      obtain ⟨E, hE⟩ : ∃ E : Int, E = if R = some 1 then 0 else 17 := ⟨_, rfl⟩
      rw [← hE]
      have HR := hide hR
      have HE := hide hE
      have Hsl := hide h
      clear hR hrow hE h
      have hd : (((l.length : Nat) : Int) == 0) = false := beq_eq_false_iff_ne.2 (by omega)
      have hd2 : decide ((64 : Int) < (l.length : Int)) = false := by simp; omega
      go_enter Tryz.func163, Tryz.ntmps163
      go_wp2_with fail
      go_loopw [4, 19] (fun rv iv wr => ∃ (k d : Nat) (xs : List (TypeId × Value)), k ≤ l.length ∧ d ≤ k ∧ iv = .int .i64 (k : Int) ∧ rowN ((l.take k).map Item.op) 0 = some d ∧ wr.ownsRow w.heap.size 214 1 rv d (xs.map ifc) ∧ Below w.heap.size w wr)
        (fun rv iv wr => l.length - (intOf iv).toNat)
      case atStart => exact ⟨0, 0, [], Nat.zero_le _, Nat.le_refl _, rfl, rfl, World.ownsRow_nil _ _ _ _, Below.refl _ _⟩
      case round =>
        obtain ⟨k, d, xs, hk, hdk, rfl, hrn, hown, hbl⟩ := hrel
        have Hrn := hide hrn
        clear hrn
        by_cases hlt : k < l.length
        · obtain ⟨hcs, hok⟩ := items_at (slice_below Hsl.out hbl hS) hlt
          have hnx := rowN_snoc ((l.take k).map Item.op) l[k].op 0
          rw [Hrn.out] at hnx
          have hall : rowN (l.map Item.op) 0 = (rowN ((l.take k).map Item.op ++ [l[k].op]) 0).bind (rowN ((l.drop (k + 1)).map Item.op)) := by
            rw [← rowN_append, List.append_assoc, List.singleton_append, ← List.map_cons, ← List.drop_eq_getElem_cons hlt, ← List.map_append, List.take_append_drop]
          rw [← HR.out] at hall
          have htk : (l.take (k + 1)).map Item.op = (l.take k).map Item.op ++ [l[k].op] := by
            rw [List.take_succ_eq_append_getElem hlt, List.map_append]; rfl
          have Hnx := hide hnx
          have Hall := hide hall
          have Htk := hide htk
          have Hok := hide hok
          have c0 := hcs 0 _ rfl
          have c1 := hcs 1 _ rfl
          have c2 := hcs 2 _ rfl
          have c3 := hcs 3 _ rfl
          have c4 := hcs 4 _ rfl
          have c5 := hcs 5 _ rfl
          have c6 := hcs 6 _ rfl
          have c7 := hcs 7 _ rfl
          have c8 := hcs 8 _ rfl
          clear hnx hall htk hok hcs
          generalize l[k] = x at *
          obtain ⟨xop, xln, xlv, xrn, xrv, xnm, xus, xli, xco⟩ := x
          simp only [Nat.add_zero] at c0 c1 c2 c3 c4 c5 c6 c7 c8
          have hsz : w.heap.size ≤ wr.heap.size := hbl.size
          cases hp : pushN d xop with
          | none =>
            have Hp := hide hp
            clear hp
            go_wp2_with fail
            refine (pushNo _ _ _ d w.heap.size 0 xs _ Hp.out (hown.alloc _) (by omega) (Nat.zero_le _) (by simp; omega)).mono ?_
            rintro e w' ⟨rfl, rfl⟩
            go_wp2_with fail
            go_ret2
            have e17 : E = 17 := by
              rw [HE.out, Hall.out, Hnx.out]
              simp [Hp.out]
            exact ⟨_, by rw [e17]; rfl, hbl.alloc hsz _⟩
          | some d' =>
            have Hp := hide hp
            clear hp
            go_wp2_with fail
            refine (push_any _ _ _ d w.heap.size w.heap.size xs _ Hp.out (hown.alloc _) (by omega) (Nat.le_refl _) (by simp; omega)).mono ?_
            rintro e w' ⟨v', xs', rfl, hown', hbl'⟩
            have Hown := hide hown
            clear hown
            go_wp2_with fail
            go_roundw
            case rel => exact ⟨k + 1, d', xs', by omega, by have := pushN_le Hp.out; omega, by go_num, by rw [Htk.out, Hnx.out]; exact Hp.out, hown', (hbl.alloc hsz _).trans hbl'⟩
            case measure => simp [intOf]; omega
        · obtain rfl : k = l.length := by omega
          have hf := Hrn.out
          rw [List.take_length, ← HR.out] at hf
          have Hf := hide hf
          clear hf
          obtain ⟨A, c', rfl, hc'⟩ := own_form hown
          cases hd1 : ((d : Int) != 1) with
          | true =>
            have e17 : E = 17 := by
              rw [HE.out, Hf.out, if_neg (by simp at hd1 ⊢; omega)]
            have E17 := hide e17
            clear e17
            go_wp2_with fail
            go_ret2
            exact ⟨_, by rw [E17.out]; rfl, hbl⟩
          | false =>
            obtain rfl : d = 1 := by simp at hd1; omega
            have e0 : E = 0 := by rw [HE.out, Hf.out, if_pos rfl]
            have E0 := hide e0
            clear e0
            have hxl : xs.length = 1 := by have := hown.1; simpa using this
            obtain ⟨x, rfl⟩ : ∃ x, xs = [x] := List.length_eq_one_iff.1 hxl
            obtain ⟨g, c2, hv, hc2', _, _⟩ := own_some hown (by omega)
            cases hv
            have hcell := own_cell hown rfl (j := 0) (u := ifc x) rfl
            clear hown hxl
            go_wp2_with fail
            go_ret2
            exact ⟨_, by rw [E0.out]; rfl, hbl⟩

set_option maxRecDepth 100000 in
theorem check_any (l : List Item) (v : Value) (S : Nat → Prop) (w : World) (h : (sliceR itemR).one w S v l) (hS : ∀ b, S b → b < w.heap.size) :
    Calls Tryz.prog 147 #[v] w fun e w' => e = .returned (.int .i64 (checkE (l.map Item.op))) ∧ Below w.heap.size w w' := by
  have H := hide (built_any l v S w h hS)
  clear h hS
  go_enter Tryz.func147, Tryz.ntmps147
  go_wp2_with (go_at_call 163; refine H.out.mono ?_; rintro e w' ⟨nv, rfl, hb⟩)
  go_ret
  exact ⟨rfl, hb⟩

def itemOf (x : Inst) : Item := ⟨x.op, ⟨#[]⟩, 0, ⟨#[]⟩, 0, ⟨#[]⟩, ⟨#[]⟩, 0, 0⟩
theorem itemOf_op (l : List Inst) : (l.map itemOf).map Item.op = l.map Inst.op := by rw [List.map_map]; rfl
theorem itemInfo : (Tryz.prog.info? 142).map (fun i => (i.zero, i.size, i.bytes)) = some (some (.agg #[.int .i64 0, .string ⟨#[]⟩, .int .i64 0, .string ⟨#[]⟩, .int .i64 0, .string ⟨#[]⟩, .string ⟨#[]⟩, .int .i64 0, .int .i64 0]), 9, 104) := by kernel_rfl
theorem cells_at_new (w : World) (g : Nat) (L : List Value) (t : TypeId) (hg : g = w.heap.size) : ∀ j u, L[j]? = some u → (w.alloc (.cells L.toArray t)).cell? ((⟨g, 0, none⟩ : Addr).add j) = some u := by
  subst hg; exact cells_new w L t
theorem item_one (x : Item) : ∀ u ∈ x.cells, u.oneCell' = true := by
  intro u hu
  simp only [Item.cells, List.mem_cons, List.not_mem_nil, or_false] at hu
  rcases hu with rfl | rfl | rfl | rfl | rfl | rfl | rfl | rfl | rfl <;> rfl

set_option maxRecDepth 100000 in
set_option maxHeartbeats 2000000 in
theorem shape_any (l : List Inst) (v : Value) (S : Nat → Prop) (w : World) (h : (sliceR instR).one w S v l) (hS : ∀ b, S b → b < w.heap.size) (hl : l.length ≤ 1000) :
    Calls Tryz.prog 148 #[v] w fun e w' => ∃ u, e = .returned u ∧ w'.ownsRow w.heap.size 142 9 u l.length ((l.map itemOf).flatMap Item.cells) ∧ Below w.heap.size w w' := by
  obtain ⟨i0, hi0, hz0, hz1, hz2⟩ := info_parts itemInfo
  obtain ⟨A, c, rfl, hc, hc2⟩ := slice_form h
  have Hsl := hide h
  clear h
  go_enter Tryz.func148, Tryz.ntmps148
  go_wp2_with fail
  go_loopw [3, 8] (fun rv iv wr => ∃ (k : Nat), k ≤ l.length ∧ iv = .int .i64 (k : Int) ∧ wr.ownsRow w.heap.size 142 9 rv k (((l.take k).map itemOf).flatMap Item.cells) ∧ Below w.heap.size w wr)
    (fun rv iv wr => l.length - (intOf iv).toNat)
  case atStart => exact ⟨0, Nat.zero_le _, rfl, World.ownsRow_nil _ _ _ _, Below.refl _ _⟩
  case round =>
    obtain ⟨k, hk, rfl, hown, hbl⟩ := hrel
    by_cases hlt : k < l.length
    · have hsl := slice_below Hsl.out hbl hS
      obtain ⟨b, o, hv, _, _⟩ := slice_some hsl (by omega)
      subst hv
      obtain ⟨hcs, hok⟩ := insts_at hsl hlt
      have htk : ((l.take (k + 1)).map itemOf).flatMap Item.cells = ((l.take k).map itemOf).flatMap Item.cells ++ (itemOf l[k]).cells := by
        rw [List.take_succ_eq_append_getElem hlt, List.map_append, List.flatMap_append]; simp
      have Htk := hide htk
      have c0 := hcs 0 _ rfl
      have c1 := hcs 1 _ rfl
      have c2 := hcs 2 _ rfl
      have c3 := hcs 3 _ rfl
      have c4 := hcs 4 _ rfl
      have c5 := hcs 5 _ rfl
      have c6 := hcs 6 _ rfl
      clear htk hok hcs hsl
      generalize l[k] = x at *
      obtain ⟨xop, xla, xln, xra, xrn, xn, xu⟩ := x
      simp only [Nat.add_zero] at c0 c1 c2 c3 c4 c5 c6
      have hsz : w.heap.size ≤ wr.heap.size := hbl.size
      go_wp2_with (at_builtin; refine wpList_append_own _ rfl _ _ 132 rfl w.heap.size 142 i0 (.agg #[.int .i64 0, .string ⟨#[]⟩, .int .i64 0, .string ⟨#[]⟩, .int .i64 0, .string ⟨#[]⟩, .string ⟨#[]⟩, .int .i64 0, .int .i64 0]) 9 104 Tryz.underlying132 hi0 hz0 hz1 hz2 rfl (by decide) _ _ _ rfl ((hown.alloc _).alloc _) ⟨wr.heap.size + 1, 0, none⟩ 1 1 [.int .i64 xop, .string ⟨#[]⟩, .int .i64 0, .string ⟨#[]⟩, .int .i64 0, .string ⟨#[]⟩, .string ⟨#[]⟩, .int .i64 0, .int .i64 0] rfl rfl (cells_at_new _ _ _ _ (by simp)) (item_one (itemOf ⟨xop, 0, 0, 0, 0, 0, 0⟩)) (by unfold maxLen; omega) (by omega) (by simp; omega) ?_; intro v2 w2 hown2 hg2 _)
      have hb2 : Below w.heap.size w w2 := ((hbl.alloc hsz _).alloc (by simp; omega) _).grown hg2 (by simp; omega) (fun j hj => (hown.lt j hj).1)
      have Hown := hide hown
      have Hown2 := hide hown2
      clear hown hown2 hg2
      go_wp2_with fail
      go_roundw
      case rel => exact ⟨k + 1, by omega, by go_num, by rw [Htk.out]; exact Hown2.out, hb2⟩
      case measure => simp [intOf]; omega
    · obtain rfl : k = l.length := by omega
      rw [List.take_length] at hown
      have Hown := hide hown
      clear hown
      go_wp2_with fail
      go_ret
      exact ⟨_, rfl, Hown.out, hbl⟩
end
end Go.Proofs.YtmcegfoaceilgaaGreat
