/-
  Parts of the proof: SoA, SoB, SoR, SoC, SoD, SoE.
-/
import Derived.Test.YtodbhccfajgekaaGreatDoorNtx8
set_option linter.unusedVariables false
set_option linter.unusedSimpArgs false
namespace Go.Proofs.YtodbhccfajgekaaGreatDoor
section
open Go.RowKit
def encP (x : Pt) : List AV := [eI x.n, eI x.a, eI x.c]
theorem sw_map {l : List Pt} {i j : Nat} (hi : i < l.length) (hj : j < l.length) : ((l.map encP).set i [eI l[j].n, eI l[j].a, eI l[j].c]).set j [eI l[i].n, eI l[i].a, eI l[i].c] = (sw l i j).map encP := by
  unfold sw
  rw [List.map_set, List.map_set, List.getD_eq_getElem?_getD, List.getD_eq_getElem?_getD, List.getElem?_eq_getElem hi, List.getElem?_eq_getElem hj]
  rfl
theorem drop3 {m : List Pt} {i j : Nat} {a b c : AV} : List.drop 3 (((m.map encP).set i [a, b, c])[j]?.getD []) = [] := by
  cases h : ((m.map encP).set i [a, b, c])[j]? with
  | none => rfl
  | some row =>
    have hm := List.mem_of_getElem? h
    rcases List.mem_or_eq_of_mem_set hm with h1 | h1
    · obtain ⟨x, _, rfl⟩ := List.mem_map.1 h1
      rfl
    · rw [h1]
      rfl
set_option maxRecDepth 100000 in
set_option maxHeartbeats 8000000 in
theorem swapRange_M (l : List Pt) (p q n : Nat) (g : FuncId) (hpq : p + n ≤ q) (hq : q + n ≤ l.length) (hl : l.length ≤ 1000000) : AMut Tryz.prog 123 95 3 (l.map encP) [eI (p : Int), eI (q : Int), eI (n : Int), .fn g []] ((swp l p q n).map encP) := by
  refine amut_of_code mixedT Tryz.func123 rfl (by decide) Tryz.ntmps123 Tryz.results123 rfl (by kernel_rfl) ?_
  (repeat' (first | simp (maxSteps := 5000000) (implicitDefEqProofs := false) only [ruA, ruB, aEv, ASt.put, envOf, Nat.reduceAdd] | (with_reducible refine aIf_split (fun _ => ?_) (fun _ => ?_)) | (with_reducible refine aSel_split (fun _ => ?_) (fun _ => ?_)) | (with_reducible refine aGd_split (fun _ => ?_) (fun _ => ?_))))
  refine aLoop_of (fun st => ∃ k : Nat, k ≤ n ∧ st = ⟨38, [(0, .osl 0), (1, eI (p : Int)), (2, eI (q : Int)), (3, eI (n : Int)), (10, eI (k : Int))], [(0, some (.row 95 3 ((swp l p q k).map encP)))], 1⟩) (fun st => n - slotN st 10) ⟨_, (weak_cut1 (by (first | ((simp only [envIn, tabIn, envLt, tabLt, AObj.lt, AV.lt, ruW, ASt.get, aget, ↓reduceIte, reduceCtorEq, Nat.reduceLT, Nat.reduceEqDiff, eq_self, swp]) <;> (repeat' apply And.intro) <;> first | (rw [wrapK (by omega)]; done) | (simp; done) | omega) | fail))), 0, Nat.zero_le _, rfl⟩ ?_
  rintro _ ⟨k, hk, rfl⟩
  have hlen := swp_len l p q k
  by_cases hlt : k < n
  · have e1 : IntKind.i64.wrap ((p : Int) + (k : Int)) = ((p + k : Nat) : Int) := by rw [wrap_in (by omega) (by omega)]; omega
    have e2 : IntKind.i64.wrap ((q : Int) + (k : Int)) = ((q + k : Nat) : Int) := by rw [wrap_in (by omega) (by omega)]; omega
    have hst : swp l p q (k + 1) = sw (swp l p q k) (p + k) (q + k) := rfl
    obtain ⟨m, hm⟩ : ∃ m, swp l p q k = m := ⟨_, rfl⟩
    rw [hm] at hlen hst ⊢
    have hi : p + k < m.length := by omega
    have hj : q + k < m.length := by omega
    have hsw := sw_map hi hj
    rw [← hst] at hsw
    (repeat' (first | simp (maxSteps := 5000000) (implicitDefEqProofs := false) only [ruA, ruB, aEv, aBin, bin2, ASt.get, aget, ASt.put, ↓reduceIte, Nat.reduceLT, Nat.reduceEqDiff, eq_self, hlt] | (with_reducible refine aIf_split (fun _ => ?_) (fun _ => ?_)) | (with_reducible refine aSel_split (fun _ => ?_) (fun _ => ?_)) | (with_reducible refine aGd_split (fun _ => ?_) (fun _ => ?_))))
    refine aDraw_held [0] [0, 1, 2, 3, 4, 5, 6, 7, 8, 9, 10, 11, 12, 14, 15, 16, 17, 18] (.two 13 (.exec 19 (.take 20 (.exec 21 (.take 22 (.exec 23 .done))))) 19 (.exec 13 (.take 20 (.exec 21 (.take 22 (.exec 23 .done)))))) (by kernel_rfl) (by simp [ATab.get_cons]) ?_
    (repeat' (first | simp (maxSteps := 5000000) (implicitDefEqProofs := false) only [ruA, ruB, aEv, aTake, aLoad, aIndex, aBin, bin2, ASt.get, aget, ASt.put, aCells, oneC, oneCL, treeC, treeL, Value.oneCell', ↓reduceIte, reduceCtorEq, Nat.reduceLT, Nat.reduceEqDiff, Nat.reduceAdd, Nat.reduceLeDiff, eq_self, aExecS, aStoreB, aTakes, aTakeE, aMay, tyE_92, tyA_95, tyS_95, row_at, e1, e2, hi, hj, encP, drop3, List.length_set] | (with_reducible refine aIf_split (fun _ => ?_) (fun _ => ?_)) | (with_reducible refine aSel_split (fun _ => ?_) (fun _ => ?_)) | (with_reducible refine aGd_split (fun _ => ?_) (fun _ => ?_)) | (with_reducible refine aDraw_quiet (by kernel_rfl) ?_) | (with_reducible apply And.intro)))
    all_goals first
      | rfl
      | omega
      | exact roundI (weak_cut1 (by (first | ((simp only [envIn, tabIn, envLt, tabLt, AObj.lt, AV.lt, ruW, ASt.get, aget, ↓reduceIte, reduceCtorEq, Nat.reduceLT, Nat.reduceEqDiff, eq_self, hsw]) <;> (repeat' apply And.intro) <;> first | (rw [wrapK (by omega)]; done) | (simp; done) | omega) | fail))) ⟨k + 1, by omega, rfl⟩ (by simp only [slotN, ruW, ASt.get, aget, ↓reduceIte, Nat.reduceLT, Nat.reduceEqDiff, eq_self]; omega)
      | trace_state
  · obtain rfl : k = n := by omega
    (repeat' (first | simp (maxSteps := 5000000) (implicitDefEqProofs := false) only [ruA, ruB, aEv, aBin, bin2, ASt.get, aget, ASt.put, ↓reduceIte, reduceCtorEq, Nat.reduceLT, Nat.reduceEqDiff, eq_self, hlt, aRetM_n] | (with_reducible refine aIf_split (fun _ => ?_) (fun _ => ?_)) | (with_reducible refine aSel_split (fun _ => ?_) (fun _ => ?_)) | (with_reducible refine aGd_split (fun _ => ?_) (fun _ => ?_)) | (with_reducible refine aDraw_quiet (by kernel_rfl) ?_)))
    all_goals trace_state
set_option maxRecDepth 100000 in
set_option maxHeartbeats 8000000 in
theorem rotate_M (pre L R post : List Pt) (g : FuncId) (a m b : Nat) (ha : a = pre.length) (hm : m = a + L.length) (hb : b = m + R.length) (hL : 0 < L.length) (hR : 0 < R.length) (hl : (pre ++ L ++ R ++ post).length ≤ 1000000) : AMut Tryz.prog 118 95 3 ((pre ++ L ++ R ++ post).map encP) [eI (a : Int), eI (m : Int), eI (b : Int), .fn g []] ((pre ++ R ++ L ++ post).map encP) := by
  have hl0 : pre.length + L.length + R.length + post.length ≤ 1000000 := by simpa [Nat.add_assoc] using hl
  have e1 : IntKind.i64.wrap ((m : Int) - (a : Int)) = ((L.length : Nat) : Int) := by rw [wrap_in (by omega) (by omega)]; omega
  have e2 : IntKind.i64.wrap ((b : Int) - (m : Int)) = ((R.length : Nat) : Int) := by rw [wrap_in (by omega) (by omega)]; omega
  refine amut_of_code mixedT Tryz.func118 rfl (by decide) Tryz.ntmps118 Tryz.results118 rfl (by kernel_rfl) ?_
  (repeat' (first | simp (maxSteps := 5000000) (implicitDefEqProofs := false) only [ruA, ruB, aEv, aBin, bin2, ASt.get, aget, ASt.put, envOf, ↓reduceIte, Nat.reduceLT, Nat.reduceEqDiff, Nat.reduceAdd, eq_self, e1, e2] | (with_reducible refine aIf_split (fun _ => ?_) (fun _ => ?_)) | (with_reducible refine aSel_split (fun _ => ?_) (fun _ => ?_)) | (with_reducible refine aGd_split (fun _ => ?_) (fun _ => ?_))))
  refine aLoop_of (fun st => ∃ (P A B Q : List Pt), 0 < A.length ∧ 0 < B.length ∧ m = P.length + A.length ∧ P.length + A.length + B.length + Q.length ≤ 1000000 ∧ P ++ B ++ A ++ Q = pre ++ R ++ L ++ post ∧ st = ⟨58, [(0, .osl 0), (2, eI (m : Int)), (4, .fn g []), (10, eI (A.length : Int)), (11, eI (B.length : Int))], [(0, some (.row 95 3 ((P ++ A ++ B ++ Q).map encP)))], 1⟩) (fun st => slotN st 10 + slotN st 11) ⟨_, (weak_cut1 (by (first | ((simp only [envIn, tabIn, envLt, tabLt, AObj.lt, AV.lt, AV.ltL, ruW, ASt.get, aget, ↓reduceIte, reduceCtorEq, Nat.reduceLT, Nat.reduceEqDiff, eq_self]) <;> (repeat' apply And.intro) <;> first | (rw [wrapK (by omega)]; done) | (simp; done) | omega) | fail))), pre, L, R, post, hL, hR, by omega, hl0, rfl, rfl⟩ ?_
  rintro _ ⟨P, A, B, Q, hA, hB, hmP, hlen, htar, rfl⟩
  have hll : (P ++ A ++ B ++ Q).length ≤ 1000000 := by simp; omega
  have e3 : IntKind.i64.wrap ((m : Int) - (A.length : Int)) = ((P.length : Nat) : Int) := by rw [wrap_in (by omega) (by omega)]; omega
  by_cases heq : A.length = B.length
  · have d1 : ((A.length : Int) != (B.length : Int)) = false := by simp [heq]
    have hsw : swp (P ++ A ++ B ++ Q) P.length m A.length = pre ++ R ++ L ++ post := by
      rw [show P ++ A ++ B ++ Q = P ++ A ++ [] ++ B ++ Q by simp, swp_all heq rfl (by simp; omega) rfl, ← htar]
      simp
    have hM := swapRange_M (P ++ A ++ B ++ Q) P.length m A.length g (by omega) (by simp; omega) hll
    rw [hsw] at hM
    (repeat' (first | simp (maxSteps := 5000000) (implicitDefEqProofs := false) only [ruA, ruB, aEv, aBin, bin2, ASt.get, aget, ASt.put, ↓reduceIte, reduceCtorEq, Nat.reduceLT, Nat.reduceEqDiff, eq_self, d1, e3] | (with_reducible refine aIf_split (fun _ => ?_) (fun _ => ?_)) | (with_reducible refine aSel_split (fun _ => ?_) (fun _ => ?_)) | (with_reducible refine aGd_split (fun _ => ?_) (fun _ => ?_))))
    refine callM hM (by simp [ATab.get_cons]) (by simp [treeML, treeM, treeL, treeC]) ?_
    (repeat' (first | simp (maxSteps := 5000000) (implicitDefEqProofs := false) only [ruA, ruB, ASt.get, aget, ASt.put, ↓reduceIte, reduceCtorEq, Nat.reduceLT, eq_self, aRetM_n] | (with_reducible refine aIf_split (fun _ => ?_) (fun _ => ?_)) | (with_reducible refine aSel_split (fun _ => ?_) (fun _ => ?_)) | (with_reducible refine aGd_split (fun _ => ?_) (fun _ => ?_)) | (with_reducible refine aDraw_quiet (by kernel_rfl) ?_)))
  · have d1 : ((A.length : Int) != (B.length : Int)) = true := by simp; omega
    by_cases hlt : B.length < A.length
    · have d2 : decide ((B.length : Int) < (A.length : Int)) = true := by simp only [decide_eq_true_eq]; omega
      have d2' : decide (B.length < A.length) = true := by simp only [decide_eq_true_eq]; omega
      have e4 : IntKind.i64.wrap ((A.length : Int) - (B.length : Int)) = ((A.length - B.length : Nat) : Int) := by rw [wrap_in (by omega) (by omega)]; omega
      obtain ⟨A1, A2, rfl, hA1⟩ : ∃ A1 A2, A = A1 ++ A2 ∧ A1.length = B.length := ⟨A.take B.length, A.drop B.length, (List.take_append_drop ..).symm, by rw [List.length_take]; omega⟩
      have hlA : (A1 ++ A2).length = A1.length + A2.length := List.length_append
      rw [hlA] at hmP hlen hA hlt d1 d2 d2' e3 e4 ⊢
      have hsw : swp (P ++ (A1 ++ A2) ++ B ++ Q) P.length m B.length = (P ++ B) ++ A2 ++ A1 ++ Q := by
        rw [show P ++ (A1 ++ A2) ++ B ++ Q = P ++ A1 ++ A2 ++ B ++ Q by simp, swp_all hA1 rfl (by simp; omega) hA1.symm]
      have hM := swapRange_M (P ++ (A1 ++ A2) ++ B ++ Q) P.length m B.length g (by omega) (by simp; omega) hll
      rw [hsw] at hM
      have e5 : A1.length + A2.length - B.length = A2.length := by omega
      rw [e5] at e4
      (repeat' (first | simp (maxSteps := 5000000) (implicitDefEqProofs := false) only [ruA, ruB, aEv, aBin, bin2, ASt.get, aget, ASt.put, ↓reduceIte, reduceCtorEq, Nat.reduceLT, Nat.reduceEqDiff, eq_self, d1, d2', e3] | (with_reducible refine aIf_split (fun _ => ?_) (fun _ => ?_)) | (with_reducible refine aSel_split (fun _ => ?_) (fun _ => ?_)) | (with_reducible refine aGd_split (fun _ => ?_) (fun _ => ?_))))
      refine callM hM (by simp [ATab.get_cons]) (by simp [treeML, treeM, treeL, treeC]) ?_
      (repeat' (first | simp (maxSteps := 5000000) (implicitDefEqProofs := false) only [ruA, ruB, aEv, aBin, bin2, ASt.get, aget, ASt.put, ↓reduceIte, Nat.reduceLT, Nat.reduceEqDiff, eq_self, e4] | (with_reducible refine aIf_split (fun _ => ?_) (fun _ => ?_)) | (with_reducible refine aSel_split (fun _ => ?_) (fun _ => ?_)) | (with_reducible refine aGd_split (fun _ => ?_) (fun _ => ?_))))
      exact roundI (weak_cut1 (by (first | ((simp only [envIn, tabIn, envLt, tabLt, AObj.lt, AV.lt, AV.ltL, ruW, ASt.get, aget, ↓reduceIte, reduceCtorEq, Nat.reduceLT, Nat.reduceEqDiff, eq_self, hA1]) <;> (repeat' apply And.intro) <;> first | (rw [wrapK (by omega)]; done) | (simp; done) | omega) | fail))) ⟨P ++ B, A2, A1, Q, by omega, by omega, by simp; omega, by simp; omega, by rw [← htar]; simp, rfl⟩ (by simp only [slotN, ruW, ASt.get, aget, ↓reduceIte, Nat.reduceLT, Nat.reduceEqDiff, eq_self]; omega)
    · have d2 : decide ((B.length : Int) < (A.length : Int)) = false := by simp only [decide_eq_false_iff_not]; omega
      have d2' : decide (B.length < A.length) = false := by simp only [decide_eq_false_iff_not]; omega
      obtain ⟨B1, B2, rfl, hB2⟩ : ∃ B1 B2, B = B1 ++ B2 ∧ B2.length = A.length := ⟨B.take (B.length - A.length), B.drop (B.length - A.length), (List.take_append_drop ..).symm, by rw [List.length_drop]; omega⟩
      have hlB : (B1 ++ B2).length = B1.length + B2.length := List.length_append
      rw [hlB] at hlen hB hlt d1 d2 d2' ⊢
      have e4 : IntKind.i64.wrap (((B1.length + B2.length : Nat) : Int) - (A.length : Int)) = ((B1.length : Nat) : Int) := by rw [wrap_in (by omega) (by omega)]; omega
      have e5 : IntKind.i64.wrap (IntKind.i64.wrap ((m : Int) + ((B1.length + B2.length : Nat) : Int)) - (A.length : Int)) = ((m + B1.length : Nat) : Int) := by rw [wrap_in (x := (m : Int) + _) (by omega) (by omega), wrap_in (by omega) (by omega)]; omega
      have hsw : swp (P ++ A ++ (B1 ++ B2) ++ Q) P.length (m + B1.length) A.length = P ++ B2 ++ B1 ++ (A ++ Q) := by
        rw [show P ++ A ++ (B1 ++ B2) ++ Q = P ++ A ++ B1 ++ B2 ++ Q by simp, swp_all hB2.symm rfl (by simp; omega) rfl]
        simp
      have hM := swapRange_M (P ++ A ++ (B1 ++ B2) ++ Q) P.length (m + B1.length) A.length g (by omega) (by simp; omega) hll
      rw [hsw] at hM
      (repeat' (first | simp (maxSteps := 5000000) (implicitDefEqProofs := false) only [ruA, ruB, aEv, aBin, bin2, ASt.get, aget, ASt.put, ↓reduceIte, reduceCtorEq, Nat.reduceLT, Nat.reduceEqDiff, eq_self, d1, d2', e3, e5] | (with_reducible refine aIf_split (fun _ => ?_) (fun _ => ?_)) | (with_reducible refine aSel_split (fun _ => ?_) (fun _ => ?_)) | (with_reducible refine aGd_split (fun _ => ?_) (fun _ => ?_))))
      refine callM hM (by simp [ATab.get_cons]) (by simp [treeML, treeM, treeL, treeC]) ?_
      (repeat' (first | simp (maxSteps := 5000000) (implicitDefEqProofs := false) only [ruA, ruB, aEv, aBin, bin2, ASt.get, aget, ASt.put, ↓reduceIte, Nat.reduceLT, Nat.reduceEqDiff, eq_self, e4] | (with_reducible refine aIf_split (fun _ => ?_) (fun _ => ?_)) | (with_reducible refine aSel_split (fun _ => ?_) (fun _ => ?_)) | (with_reducible refine aGd_split (fun _ => ?_) (fun _ => ?_))))
      exact roundI (weak_cut1 (by (first | ((simp only [envIn, tabIn, envLt, tabLt, AObj.lt, AV.lt, AV.ltL, ruW, ASt.get, aget, ↓reduceIte, reduceCtorEq, Nat.reduceLT, Nat.reduceEqDiff, eq_self, hB2]) <;> (repeat' apply And.intro) <;> first | (rw [wrapK (by omega)]; done) | (simp; done) | omega) | fail))) ⟨P, B2, B1, A ++ Q, by omega, by omega, by omega, by simp; omega, by rw [← htar]; simp, rfl⟩ (by simp only [slotN, ruW, ASt.get, aget, ↓reduceIte, Nat.reduceLT, Nat.reduceEqDiff, eq_self]; omega)
end
section
open Go.RowKit
def CmpOk (g : FuncId) : Prop := ∀ x y : Pt, ADet Tryz.prog g [.agg [eI x.n, eI x.a, eI x.c], .agg [eI y.n, eI y.a, eI y.c]] (val (.int .i64 (cmpI x.n y.n)))
theorem cmpI_neg (a b : Int) : decide (cmpI a b < 0) = decide (a < b) := by
  unfold cmpI
  split
  · rename_i h
    simp [h]
  · rename_i h
    split <;> simp [h]
theorem getEl {l : List Pt} {i : Nat} {x : Pt} (h : l[i]? = some x) : ∃ hi : i < l.length, l[i] = x := List.getElem?_eq_some_iff.1 h
set_option maxRecDepth 100000 in
set_option maxHeartbeats 8000000 in
theorem insertion_M (g : FuncId) (hg : CmpOk g) (pre seg post : List Pt) (a b : Nat) (ha : a = pre.length) (hb : b = a + seg.length) (ht : Tg seg) (hl : (pre ++ seg ++ post).length ≤ 1000000) : AMut Tryz.prog 101 95 3 ((pre ++ seg ++ post).map encP) [eI (a : Int), eI (b : Int), .fn g []] ((pre ++ srt seg ++ post).map encP) := by
  have hl0 : pre.length + seg.length + post.length ≤ 1000000 := by simpa [Nat.add_assoc] using hl
  have e1 : IntKind.i64.wrap ((a : Int) + 1) = ((a + 1 : Nat) : Int) := by rw [wrap_in (by omega) (by omega)]; omega
  have hs0 : pre ++ srt (seg.take 1) ++ seg.drop 1 ++ post = pre ++ seg ++ post := by
    have : srt (seg.take 1) = seg.take 1 := by
      match seg with
      | [] => exact srt_nil
      | x :: l => exact srt_of (List.pairwise_singleton _ _)
    rw [this, List.append_assoc pre, List.take_append_drop]
  refine amut_of_code mixedT Tryz.func101 rfl (by decide) Tryz.ntmps101 Tryz.results101 rfl (by kernel_rfl) ?_
  (repeat' (first | simp (maxSteps := 5000000) (implicitDefEqProofs := false) only [ruA, ruB, aEv, aBin, bin2, ASt.get, aget, ASt.put, envOf, ↓reduceIte, Nat.reduceLT, Nat.reduceAdd, eq_self, e1] | (with_reducible refine aIf_split (fun _ => ?_) (fun _ => ?_)) | (with_reducible refine aSel_split (fun _ => ?_) (fun _ => ?_)) | (with_reducible refine aGd_split (fun _ => ?_) (fun _ => ?_))))
  refine aLoop_of (fun st => ∃ k : Nat, 1 ≤ k ∧ (k ≤ seg.length ∨ k = 1) ∧ st = ⟨53, [(0, .osl 0), (1, eI (a : Int)), (2, eI (b : Int)), (3, .fn g []), (8, eI ((a + k : Nat) : Int))], [(0, some (.row 95 3 ((pre ++ srt (seg.take k) ++ seg.drop k ++ post).map encP)))], 1⟩) (fun st => b - slotN st 8) ⟨_, (weak_cut1 (by (first | ((simp only [envIn, tabIn, envLt, tabLt, AObj.lt, AV.lt, AV.ltL, ruW, ASt.get, aget, ↓reduceIte, reduceCtorEq, Nat.reduceLT, Nat.reduceEqDiff, eq_self, hs0]) <;> (repeat' apply And.intro) <;> first | (rw [wrapK (by omega)]; done) | (simp; done) | omega) | fail))), 1, Nat.le_refl _, .inr rfl, rfl⟩ ?_
  rintro _ ⟨k, hk1, hk2, rfl⟩
  by_cases hlt : k < seg.length
  · have d1 : decide (((a + k : Nat) : Int) < (b : Int)) = true := by simp only [decide_eq_true_eq]; omega
    have d1' : decide (a + k < b) = true := by simp only [decide_eq_true_eq]; omega
    have hdrop : seg.drop k = seg[k] :: seg.drop (k + 1) := List.drop_eq_getElem_cons hlt
    have htake : seg.take (k + 1) = seg.take k ++ [seg[k]] := List.take_succ_eq_append_getElem hlt
    have hSl : (srt (seg.take k)).length = k := by rw [srt_len, List.length_take]; omega
    have hSs : Srt (srt (seg.take k)) := srt_sorted (ht.take k).dt
    have hSt : ∀ y ∈ srt (seg.take k), y.t < seg[k].t := fun y hy => ht.lt hlt y (srt_mem.1 hy)
    have hfin : srt (seg.take (k + 1)) = srt (srt (seg.take k) ++ [seg[k]]) := by
      rw [htake, srt_snoc]
      rw [← htake]
      exact (ht.take _).dt
    rw [hdrop]
    generalize hrest : seg.drop (k + 1) = rest at *
    generalize seg[k] = x at *
    generalize hS : srt (seg.take k) = S at *
    have hrl : k + (rest.length + 1) = seg.length := by
      have := congrArg List.length hdrop
      rw [List.length_drop, List.length_cons] at this
      omega
    have hst0 : pre ++ S ++ x :: rest ++ post = pre ++ S.take k ++ x :: (S.drop k ++ rest ++ post) := by
      rw [List.take_of_length_le (by omega), List.drop_of_length_le (by omega)]
      simp
    (repeat' (first | simp (maxSteps := 5000000) (implicitDefEqProofs := false) only [ruA, ruB, aEv, aBin, bin2, ASt.get, aget, ASt.put, ↓reduceIte, Nat.reduceLT, Nat.reduceEqDiff, eq_self, d1'] | (with_reducible refine aIf_split (fun _ => ?_) (fun _ => ?_)) | (with_reducible refine aSel_split (fun _ => ?_) (fun _ => ?_)) | (with_reducible refine aGd_split (fun _ => ?_) (fun _ => ?_))))
    refine aLoop_of (fun st => ∃ q : Nat, q ≤ S.length ∧ (∀ t (h : t < S.length), q ≤ t → x.n < S[t].n) ∧ st = ⟨53, [(0, .osl 0), (1, eI (a : Int)), (2, eI (b : Int)), (3, .fn g []), (8, eI ((a + k : Nat) : Int)), (9, eI ((a + q : Nat) : Int))], [(0, some (.row 95 3 ((pre ++ S.take q ++ x :: (S.drop q ++ rest ++ post)).map encP)))], 1⟩) (fun st => slotN st 9) ⟨_, (weak_cut1 (by (first | ((simp only [envIn, tabIn, envLt, tabLt, AObj.lt, AV.lt, AV.ltL, ruW, ASt.get, aget, ↓reduceIte, reduceCtorEq, Nat.reduceLT, Nat.reduceEqDiff, eq_self, hst0]) <;> (repeat' apply And.intro) <;> first | (rw [wrapK (by omega)]; done) | (simp; done) | omega) | fail))), k, by omega, fun t h h2 => by omega, rfl⟩ ?_
    rintro _ ⟨q, hq, hbig, rfl⟩
    have e2 : IntKind.i64.wrap (((a + k : Nat) : Int) + 1) = ((a + (k + 1) : Nat) : Int) := by rw [wrap_in (by omega) (by omega)]; omega
    have done : (∀ t (h : t < S.length), t < q → ¬ x.n < S[t].n) → pre ++ S.take q ++ x :: (S.drop q ++ rest ++ post) = pre ++ srt (seg.take (k + 1)) ++ rest ++ post := fun h => by
      rw [hfin, ins_last hSs hSt h hbig]
      simp
    cases q with
    | zero =>
      have d2 : decide ((a : Int) < ((a + 0 : Nat) : Int)) = false := by simp
      have d2' : decide (a < a + 0) = false := by simp
      have d2'' : decide (a < a) = false := by simp
      rw [done fun t h h2 => by omega]
      (repeat' (first | simp (maxSteps := 5000000) (implicitDefEqProofs := false) only [ruA, ruB] | (with_reducible refine aIf_split (fun _ => ?_) (fun _ => ?_)) | (with_reducible refine aSel_split (fun _ => ?_) (fun _ => ?_)) | (with_reducible refine aGd_split (fun _ => ?_) (fun _ => ?_))))
      refine aDraw_held [] [0, 1, 2, 3, 4, 5, 6, 7, 8, 9, 10, 11, 12, 13] (.exec 14 (.take 15 (.take 16 .done))) (by kernel_rfl) (by simp [ATab.get_cons]) ?_
      (repeat' (first | simp (maxSteps := 5000000) (implicitDefEqProofs := false) only [ruA, ruB, aEv, aBin, bin2, ASt.get, aget, ASt.put, ↓reduceIte, Nat.reduceLT, Nat.reduceEqDiff, eq_self, aTakes, aTakeE, d2''] | (with_reducible refine aIf_split (fun _ => ?_) (fun _ => ?_)) | (with_reducible refine aSel_split (fun _ => ?_) (fun _ => ?_)) | (with_reducible refine aGd_split (fun _ => ?_) (fun _ => ?_)) | (with_reducible refine aDraw_quiet (by kernel_rfl) ?_)))
      all_goals first
        | exact roundI (weak_cut1 (by (first | ((simp only [envIn, tabIn, envLt, tabLt, AObj.lt, AV.lt, AV.ltL, ruW, ASt.get, aget, ↓reduceIte, reduceCtorEq, Nat.reduceLT, Nat.reduceEqDiff, eq_self, e2, hrest]) <;> (repeat' apply And.intro) <;> first | (rw [wrapK (by omega)]; done) | (simp; done) | omega) | fail))) ⟨k + 1, by omega, .inl (by omega), rfl⟩ (by simp only [slotN, ruW, ASt.get, aget, ↓reduceIte, Nat.reduceLT, Nat.reduceEqDiff, eq_self]; omega)
        | trace_state
    | succ q =>
      have hqS : q < S.length := by omega
      have d2 : decide ((a : Int) < ((a + (q + 1) : Nat) : Int)) = true := by simp only [decide_eq_true_eq]; omega
      have d2' : decide (a < a + (q + 1)) = true := by simp only [decide_eq_true_eq]; omega
      have e3 : IntKind.i64.wrap (((a + (q + 1) : Nat) : Int) - 1) = ((a + q : Nat) : Int) := by rw [wrap_in (by omega) (by omega)]; omega
      have tS : S.take (q + 1) = S.take q ++ [S[q]] := List.take_succ_eq_append_getElem hqS
      have dS : S.drop q = S[q] :: S.drop (q + 1) := List.drop_eq_getElem_cons hqS
      have ltS : (S.take q).length = q := by rw [List.length_take]; omega
      have hyq : ∀ t (h : t < S.length), t ≤ q → S[t].n ≤ S[q].n := fun t h h2 => n_mono hSs h2 hqS
      by_cases hxy : x.n < S[q].n
      · have d3 : decide (cmpI x.n S[q].n < 0) = true := by rw [cmpI_neg]; simpa using hxy
        have hbig2 : ∀ t (h : t < S.length), q ≤ t → x.n < S[t].n := fun t h h2 => by
          rcases Nat.lt_or_ge q t with h3 | h3
          · exact hbig t h h3
          · obtain rfl : q = t := by omega
            exact hxy
        have hnew : pre ++ S.take q ++ x :: (S.drop q ++ rest ++ post) = (pre ++ S.take q) ++ x :: ([] ++ S[q] :: (S.drop (q + 1) ++ rest ++ post)) := by rw [dS]; simp only [List.append_assoc, List.cons_append, List.nil_append]
        have hold : pre ++ S.take (q + 1) ++ x :: (S.drop (q + 1) ++ rest ++ post) = (pre ++ S.take q) ++ S[q] :: ([] ++ x :: (S.drop (q + 1) ++ rest ++ post)) := by rw [tS]; simp only [List.append_assoc, List.cons_append, List.nil_append]
        have hsw := sw_app (X := pre ++ S.take q) (Y := []) (Z := S.drop (q + 1) ++ rest ++ post) (a := S[q]) (b := x) (i := a + q) (j := a + (q + 1)) (by rw [List.length_append]; omega) (by rw [List.length_append]; simp; omega)
        rw [← hold, ← hnew, sw_comm _ (by omega)] at hsw
        obtain ⟨hj, hxj⟩ := getEl (show (pre ++ S.take (q + 1) ++ x :: (S.drop (q + 1) ++ rest ++ post))[a + (q + 1)]? = some x from get_mid (by rw [List.length_append, List.length_take]; omega))
        obtain ⟨hi, hyi⟩ := getEl (show (pre ++ S.take (q + 1) ++ x :: (S.drop (q + 1) ++ rest ++ post))[a + q]? = some S[q] from by rw [hold]; exact get_mid (by rw [List.length_append]; omega))
        generalize S[q] = y at *
        generalize hm : pre ++ S.take (q + 1) ++ x :: (S.drop (q + 1) ++ rest ++ post) = m at *
        have hsm := sw_map hj hi
        rw [hsw, hxj, hyi] at hsm
        have hc := hg x y
        (repeat' (first | simp (maxSteps := 5000000) (implicitDefEqProofs := false) only [ruA] | (with_reducible refine aIf_split (fun _ => ?_) (fun _ => ?_)) | (with_reducible refine aSel_split (fun _ => ?_) (fun _ => ?_)) | (with_reducible refine aGd_split (fun _ => ?_) (fun _ => ?_))))
        refine aDraw_held [] [0, 1, 2, 3, 4, 5, 6, 7, 8, 9, 10, 11, 12, 13] (.exec 14 (.take 15 (.take 16 .done))) (by kernel_rfl) (by simp [ATab.get_cons]) ?_
        (repeat' (first | simp (maxSteps := 5000000) (implicitDefEqProofs := false) only [ruA, ruB, aEv, aTake, aLoad, aIndex, aBin, bin2, ASt.get, aget, ASt.put, ↓reduceIte, reduceCtorEq, Nat.reduceLT, Nat.reduceEqDiff, Nat.reduceAdd, eq_self, aTakes, aFrom, tyE_92, tyA_95, tyS_95, row_at, d2', e3, hj, hi, hxj, hyi, encP] | (with_reducible refine aIf_split (fun _ => ?_) (fun _ => ?_)) | (with_reducible refine aSel_split (fun _ => ?_) (fun _ => ?_)) | (with_reducible refine aGd_split (fun _ => ?_) (fun _ => ?_))))
        refine callV hc ?_
        (repeat' (first | simp (maxSteps := 5000000) (implicitDefEqProofs := false) only [ruA, ruB, aEv, aBin, bin2, ASt.get, aget, ASt.put, ↓reduceIte, Nat.reduceLT, Nat.reduceEqDiff, eq_self, aTakeE, d3] | (with_reducible refine aIf_split (fun _ => ?_) (fun _ => ?_)) | (with_reducible refine aSel_split (fun _ => ?_) (fun _ => ?_)) | (with_reducible refine aGd_split (fun _ => ?_) (fun _ => ?_))))
        refine aDraw_held [0] [0, 1, 2, 3, 4, 5, 6, 7, 8, 10, 11, 12] (.two 9 (.exec 13 (.take 14 (.exec 15 (.take 16 (.exec 17 .done))))) 13 (.exec 9 (.take 14 (.exec 15 (.take 16 (.exec 17 .done)))))) (by kernel_rfl) (by simp [ATab.get_cons]) ?_
        (repeat' (first | simp (maxSteps := 5000000) (implicitDefEqProofs := false) only [ruA, ruB, aEv, aTake, aLoad, aIndex, aBin, bin2, ASt.get, aget, ASt.put, aCells, oneC, oneCL, treeC, treeL, Value.oneCell', ↓reduceIte, reduceCtorEq, Nat.reduceLT, Nat.reduceEqDiff, Nat.reduceAdd, Nat.reduceLeDiff, eq_self, aExecS, aStoreB, aTakes, aTakeE, aMay, tyE_92, tyA_95, tyS_95, row_at, e3, hj, hi, hxj, hyi, encP, drop3, List.length_set] | (with_reducible refine aIf_split (fun _ => ?_) (fun _ => ?_)) | (with_reducible refine aSel_split (fun _ => ?_) (fun _ => ?_)) | (with_reducible refine aGd_split (fun _ => ?_) (fun _ => ?_)) | (with_reducible refine aDraw_quiet (by kernel_rfl) ?_) | (with_reducible apply And.intro)))
        all_goals first
          | rfl
          | omega
          | exact roundI (weak_cut1 (by (first | ((simp only [envIn, tabIn, envLt, tabLt, AObj.lt, AV.lt, AV.ltL, ruW, ASt.get, aget, ↓reduceIte, reduceCtorEq, Nat.reduceLT, Nat.reduceEqDiff, eq_self, hsm]) <;> (repeat' apply And.intro) <;> first | (rw [wrapK (by omega)]; done) | (simp; done) | omega) | fail))) ⟨q, by omega, hbig2, rfl⟩ (by simp only [slotN, ruW, ASt.get, aget, ↓reduceIte, Nat.reduceLT, Nat.reduceEqDiff, eq_self]; omega)
          | trace_state
      · have d3 : decide (cmpI x.n S[q].n < 0) = false := by rw [cmpI_neg]; simpa using hxy
        obtain ⟨hj, hxj⟩ := getEl (show (pre ++ S.take (q + 1) ++ x :: (S.drop (q + 1) ++ rest ++ post))[a + (q + 1)]? = some x from get_mid (by rw [List.length_append, List.length_take]; omega))
        have hold : pre ++ S.take (q + 1) ++ x :: (S.drop (q + 1) ++ rest ++ post) = (pre ++ S.take q) ++ S[q] :: ([] ++ x :: (S.drop (q + 1) ++ rest ++ post)) := by rw [tS]; simp only [List.append_assoc, List.cons_append, List.nil_append]
        obtain ⟨hi, hyi⟩ := getEl (show (pre ++ S.take (q + 1) ++ x :: (S.drop (q + 1) ++ rest ++ post))[a + q]? = some S[q] from by rw [hold]; exact get_mid (by rw [List.length_append]; omega))
        have hdn := done fun t h h2 => by
          have := hyq t h (by omega)
          omega
        clear hold
        generalize S[q] = y at *
        generalize hm : pre ++ S.take (q + 1) ++ x :: (S.drop (q + 1) ++ rest ++ post) = m at *
        have hc := hg x y
        have hmm : m.map encP = (pre ++ srt (seg.take (k + 1)) ++ rest ++ post).map encP := by rw [hdn]
        (repeat' (first | simp (maxSteps := 5000000) (implicitDefEqProofs := false) only [ruA] | (with_reducible refine aIf_split (fun _ => ?_) (fun _ => ?_)) | (with_reducible refine aSel_split (fun _ => ?_) (fun _ => ?_)) | (with_reducible refine aGd_split (fun _ => ?_) (fun _ => ?_))))
        refine aDraw_held [] [0, 1, 2, 3, 4, 5, 6, 7, 8, 9, 10, 11, 12, 13] (.exec 14 (.take 15 (.take 16 .done))) (by kernel_rfl) (by simp [ATab.get_cons]) ?_
        (repeat' (first | simp (maxSteps := 5000000) (implicitDefEqProofs := false) only [ruA, ruB, aEv, aTake, aLoad, aIndex, aBin, bin2, ASt.get, aget, ASt.put, ↓reduceIte, reduceCtorEq, Nat.reduceLT, Nat.reduceEqDiff, Nat.reduceAdd, eq_self, aTakes, aTakeE, aFrom, tyE_92, tyA_95, tyS_95, row_at, d2', e3, hj, hi, hxj, hyi, encP, d3] | (with_reducible refine aIf_split (fun _ => ?_) (fun _ => ?_)) | (with_reducible refine aSel_split (fun _ => ?_) (fun _ => ?_)) | (with_reducible refine aGd_split (fun _ => ?_) (fun _ => ?_)) | (with_reducible refine aDraw_quiet (by kernel_rfl) ?_) | ((with_reducible apply callV); exact (hc)) | ((with_reducible apply callD); exact (hc))))
        all_goals first
          | exact roundI (weak_cut1 (by (first | ((simp only [envIn, tabIn, envLt, tabLt, AObj.lt, AV.lt, AV.ltL, ruW, ASt.get, aget, ↓reduceIte, reduceCtorEq, Nat.reduceLT, Nat.reduceEqDiff, eq_self, e2, hrest, hmm]) <;> (repeat' apply And.intro) <;> first | (rw [wrapK (by omega)]; done) | (simp; done) | omega) | fail))) ⟨k + 1, by omega, .inl (by omega), rfl⟩ (by simp only [slotN, ruW, ASt.get, aget, ↓reduceIte, Nat.reduceLT, Nat.reduceEqDiff, eq_self]; omega)
          | trace_state
  · have d1 : decide (((a + k : Nat) : Int) < (b : Int)) = false := by simp only [decide_eq_false_iff_not]; omega
    have d1' : decide (a + k < b) = false := by simp only [decide_eq_false_iff_not]; omega
    have hfin : pre ++ srt (seg.take k) ++ seg.drop k ++ post = pre ++ srt seg ++ post := by
      rw [List.take_of_length_le (by omega), List.drop_of_length_le (by omega)]
      simp
    rw [hfin]
    (repeat' (first | simp (maxSteps := 5000000) (implicitDefEqProofs := false) only [ruA, ruB, aEv, aBin, bin2, ASt.get, aget, ASt.put, ↓reduceIte, reduceCtorEq, Nat.reduceLT, Nat.reduceEqDiff, eq_self, d1', aRetM_n] | (with_reducible refine aIf_split (fun _ => ?_) (fun _ => ?_)) | (with_reducible refine aSel_split (fun _ => ?_) (fun _ => ?_)) | (with_reducible refine aGd_split (fun _ => ?_) (fun _ => ?_)) | (with_reducible refine aDraw_quiet (by kernel_rfl) ?_)))
end
section
/-- the place at which A is cut, from below and from above -/
def CutLo (A B : List Pt) (M u : Nat) : Prop := ∀ t (h : t < A.length) (h' : M - 1 - t < B.length), M - B.length ≤ t → t < u → ¬ B[M - 1 - t].n < A[t].n
def CutHi (A B : List Pt) (M u : Nat) : Prop := ∀ t (h : t < A.length) (h' : M - 1 - t < B.length), u ≤ t → t < M → B[M - 1 - t].n < A[t].n
theorem cutLo_step {A B : List Pt} (hA : Srt A) (hB : Srt B) {M h : Nat} (hh : h < A.length) (hh' : M - 1 - h < B.length) (hM : h < M) (hc : ¬ B[M - 1 - h].n < A[h].n) : CutLo A B M (h + 1) := fun t ht ht' _ h2 => by
  have h3 := n_mono hA (show t ≤ h by omega) hh
  have h4 := n_mono hB (show M - 1 - h ≤ M - 1 - t by omega) ht'
  omega
theorem cutHi_step {A B : List Pt} (hA : Srt A) (hB : Srt B) {M h : Nat} (hh : h < A.length) (hh' : M - 1 - h < B.length) (hc : B[M - 1 - h].n < A[h].n) : CutHi A B M h := fun t ht ht' h1 h2 => by
  have h3 := n_mono hA h1 ht
  have h4 := n_mono hB (show M - 1 - t ≤ M - 1 - h by omega) hh'
  omega
theorem sym_cut {A B : List Pt} (hA : Srt A) (hB : Srt B) (ht : ∀ x ∈ A, ∀ y ∈ B, x.t < y.t) {M u : Nat} (hlo : M - B.length ≤ u) (hhi : u ≤ M) (hhi2 : u ≤ A.length) (h1 : CutLo A B M u) (h2 : CutHi A B M u) :
    srt (A ++ B) = srt (A.take u ++ B.take (M - u)) ++ srt (A.drop u ++ B.drop (M - u)) := by
  have e := srt_cut (A1 := A.take u) (A2 := A.drop u) (B1 := B.take (M - u)) (B2 := B.drop (M - u)) (by rw [List.take_append_drop]; exact hA) (by rw [List.take_append_drop]; exact hB) (by rw [List.take_append_drop, List.take_append_drop]; exact ht) ?_ ?_
  · rwa [List.take_append_drop, List.take_append_drop] at e
  · intro x hx y hy
    obtain ⟨i, hi, rfl⟩ := List.getElem_of_mem hx
    obtain ⟨j, hj, rfl⟩ := List.getElem_of_mem hy
    rw [List.length_take] at hi
    rw [List.length_drop] at hj
    rw [List.getElem_take, List.getElem_drop]
    have hiA : i < A.length := by omega
    have hjB : M - u + j < B.length := by omega
    have h3 := ht _ (List.getElem_mem hiA) _ (List.getElem_mem hjB)
    have h4 := h1 (u - 1) (by omega) (by omega) (by omega) (by omega)
    have h5 := n_mono hA (show i ≤ u - 1 by omega) (by omega)
    have h6 := n_mono hB (show M - 1 - (u - 1) ≤ M - u + j by omega) hjB
    unfold ltE
    omega
  · intro y hy x hx
    obtain ⟨i, hi, rfl⟩ := List.getElem_of_mem hx
    obtain ⟨j, hj, rfl⟩ := List.getElem_of_mem hy
    rw [List.length_drop] at hi
    rw [List.length_take] at hj
    rw [List.getElem_take, List.getElem_drop]
    have hiA : u + i < A.length := by omega
    have hjB : j < B.length := by omega
    have h4 := h2 u (by omega) (by omega) (Nat.le_refl _) (by omega)
    have h5 := n_mono hA (show u ≤ u + i by omega) hiA
    have h6 := n_mono hB (show j ≤ M - 1 - u by omega) (by omega)
    unfold ltE
    omega
theorem Srt.take {l : List Pt} (h : Srt l) (k : Nat) : Srt (l.take k) := h.sublist (List.take_sublist k l)
theorem Srt.drop {l : List Pt} (h : Srt l) (k : Nat) : Srt (l.drop k) := h.sublist (List.drop_sublist k l)
end
section
open Go.RowKit
theorem u64_in {n : Nat} (h : n ≤ 4000000) : IntKind.u64.wrap (n : Int) = (n : Int) := by simp [IntKind.wrap, IntKind.bits, IntKind.signed]; omega
theorem half_in (x y : Nat) (h : x + y ≤ 4000000) : (if (1 : Int) < 0 then (none : Option Value) else some (Value.int IntKind.u64 ((IntKind.u64.wrap (IntKind.i64.wrap ((x : Int) + (y : Int)))).fdiv (2 ^ min (Int.toNat 1) IntKind.u64.bits)))) = some (.int .u64 (((x + y) / 2 : Nat) : Int)) := by
  rw [if_neg (by decide), wrap_in (by omega) (by omega), show ((x : Int) + (y : Int)) = ((x + y : Nat) : Int) by omega, u64_in h]
  have : ((x + y : Nat) : Int).fdiv (2 ^ min (Int.toNat 1) IntKind.u64.bits) = (((x + y) / 2 : Nat) : Int) := by
    rw [show (2 : Int) ^ min (Int.toNat 1) IntKind.u64.bits = 2 from rfl, Int.fdiv_eq_ediv_of_nonneg _ (by omega)]
    omega
  rw [this]
set_option maxRecDepth 100000 in
set_option maxHeartbeats 8000000 in
theorem symOne_M (g : FuncId) (hg : CmpOk g) (pre B post : List Pt) (x : Pt) (a m b : Nat) (ha : a = pre.length) (hm : m = a + 1) (hb : b = m + B.length) (hB : Srt B) (ht : ∀ y ∈ B, x.t < y.t) (hl : pre.length + B.length + post.length ≤ 1000000) : AMut Tryz.prog 102 95 3 ((pre ++ x :: (B ++ post)).map encP) [eI (a : Int), eI (m : Int), eI (b : Int), .fn g []] ((pre ++ srt ([x] ++ B) ++ post).map encP) := by
  have e0 : IntKind.i64.wrap ((m : Int) - (a : Int)) = 1 := by rw [wrap_in (by omega) (by omega)]; omega
  have d0 : ((1 : Int) == 1) = true := by decide
  obtain ⟨T, hT⟩ : ∃ T, pre ++ srt ([x] ++ B) ++ post = T := ⟨_, rfl⟩
  rw [hT]
  refine amut_of_code mixedT Tryz.func102 rfl (by decide) Tryz.ntmps102 Tryz.results102 rfl (by kernel_rfl) ?_
  (repeat' (first | simp (maxSteps := 5000000) (implicitDefEqProofs := false) only [ruA, ruB, aEv, aBin, bin2, ASt.get, aget, ASt.put, envOf, ↓reduceIte, Nat.reduceLT, Nat.reduceEqDiff, Nat.reduceAdd, eq_self, e0, d0] | (with_reducible refine aIf_split (fun _ => ?_) (fun _ => ?_)) | (with_reducible refine aSel_split (fun _ => ?_) (fun _ => ?_)) | (with_reducible refine aGd_split (fun _ => ?_) (fun _ => ?_))))
  refine aLoop_of (fun st => ∃ i j : Nat, i ≤ j ∧ j ≤ B.length ∧ (∀ t (h : t < B.length), t < i → B[t].n < x.n) ∧ (∀ t (h : t < B.length), j ≤ t → ¬ B[t].n < x.n) ∧ st = ⟨220, [(0, .osl 0), (1, eI (a : Int)), (4, .fn g []), (10, eI ((m + i : Nat) : Int)), (11, eI ((m + j : Nat) : Int))], [(0, some (.row 95 3 ((pre ++ x :: (B ++ post)).map encP)))], 1⟩) (fun st => slotN st 11 - slotN st 10) ⟨_, (weak_cut1 (by (first | ((simp only [envIn, tabIn, envLt, tabLt, AObj.lt, AV.lt, AV.ltL, ruW, ASt.get, aget, ↓reduceIte, reduceCtorEq, Nat.reduceLT, Nat.reduceEqDiff, eq_self, hb]) <;> (repeat' apply And.intro) <;> first | (rw [wrapK (by omega)]; done) | (simp; done) | omega) | fail))), 0, B.length, Nat.zero_le _, Nat.le_refl _, fun t h h2 => by omega, fun t h h2 => by omega, rfl⟩ ?_
  rintro _ ⟨i, j, hij, hjB, h1, h2, rfl⟩
  by_cases hlt : i < j
  · have d1 : decide (((m + i : Nat) : Int) < ((m + j : Nat) : Int)) = true := by simp only [decide_eq_true_eq]; omega
    have d1' : decide (m + i < m + j) = true := by simp only [decide_eq_true_eq]; omega
    have hH := half_in (m + i) (m + j) (by omega)
    obtain ⟨h, hh, hih, hhj⟩ : ∃ h, (m + i + (m + j)) / 2 = m + h ∧ i ≤ h ∧ h < j := ⟨(m + i + (m + j)) / 2 - m, by omega, by omega, by omega⟩
    rw [hh] at hH
    have eH : IntKind.i64.wrap ((m + h : Nat) : Int) = ((m + h : Nat) : Int) := wrap_in (by omega) (by omega)
    have eH1 : IntKind.i64.wrap (((m + h : Nat) : Int) + 1) = ((m + (h + 1) : Nat) : Int) := by rw [wrap_in (by omega) (by omega)]; omega
    have hhB : h < B.length := by omega
    obtain ⟨hia, hxa⟩ := getEl (show (pre ++ x :: (B ++ post))[a]? = some x from get_mid ha)
    obtain ⟨hih2, hyh⟩ := getEl (show (pre ++ x :: (B ++ post))[m + h]? = some B[h] from by
      rw [show pre ++ x :: (B ++ post) = (pre ++ [x]) ++ (B ++ post) by simp, List.getElem?_append_right (by simp; omega), List.getElem?_append_left (by simp; omega), List.getElem?_eq_getElem (by simp; omega)]
      congr 2
      simp
      omega)
    have hc := hg B[h] x
    have hmono1 : ∀ t (h' : t < B.length), t ≤ h → B[t].n ≤ B[h].n := fun t h' h3 => n_mono hB h3 hhB
    have hmono2 : ∀ t (h' : t < B.length), h ≤ t → B[h].n ≤ B[t].n := fun t h' h3 => n_mono hB h3 h'
    by_cases hxy : B[h].n < x.n
    · have d3 : decide (cmpI B[h].n x.n < 0) = true := by rw [cmpI_neg]; simpa using hxy
      have h1' : ∀ t (h' : t < B.length), t < h + 1 → B[t].n < x.n := fun t h' h3 => by have := hmono1 t h' (by omega); omega
      generalize B[h] = y at *
      generalize pre ++ x :: (B ++ post) = l at *
      (repeat' (first | simp (maxSteps := 5000000) (implicitDefEqProofs := false) only [ruA, ruB, aEv, aBin, bin2, aConv, ASt.get, aget, ASt.put, ↓reduceIte, Nat.reduceLT, Nat.reduceEqDiff, eq_self, tyI_3, tyI_123, d1', hH, eH] | (with_reducible refine aIf_split (fun _ => ?_) (fun _ => ?_)) | (with_reducible refine aSel_split (fun _ => ?_) (fun _ => ?_)) | (with_reducible refine aGd_split (fun _ => ?_) (fun _ => ?_))))
      refine aDraw_held [] [0, 1, 2, 3, 4, 5, 6, 7, 8] (.exec 9 (.take 10 .done)) (by kernel_rfl) (by simp [ATab.get_cons]) ?_
      (repeat' (first | simp (maxSteps := 5000000) (implicitDefEqProofs := false) only [ruA, ruB, aEv, aTake, aLoad, aIndex, ASt.get, aget, ASt.put, ↓reduceIte, reduceCtorEq, Nat.reduceLT, Nat.reduceEqDiff, Nat.reduceAdd, eq_self, aTakes, aFrom, tyE_92, tyA_95, tyS_95, row_at, hia, hxa, hih2, hyh, encP] | (with_reducible refine aIf_split (fun _ => ?_) (fun _ => ?_)) | (with_reducible refine aSel_split (fun _ => ?_) (fun _ => ?_)) | (with_reducible refine aGd_split (fun _ => ?_) (fun _ => ?_))))
      refine callV hc ?_
      (repeat' (first | simp (maxSteps := 5000000) (implicitDefEqProofs := false) only [ruA, ruB, aEv, aBin, bin2, ASt.get, aget, ASt.put, ↓reduceIte, Nat.reduceLT, Nat.reduceEqDiff, eq_self, aTakeE, d3, eH1] | (with_reducible refine aIf_split (fun _ => ?_) (fun _ => ?_)) | (with_reducible refine aSel_split (fun _ => ?_) (fun _ => ?_)) | (with_reducible refine aGd_split (fun _ => ?_) (fun _ => ?_))))
      exact roundI (weak_cut1 (by (first | ((simp only [envIn, tabIn, envLt, tabLt, AObj.lt, AV.lt, AV.ltL, ruW, ASt.get, aget, ↓reduceIte, reduceCtorEq, Nat.reduceLT, Nat.reduceEqDiff, eq_self]) <;> (repeat' apply And.intro) <;> first | (rw [wrapK (by omega)]; done) | (simp; done) | omega) | fail))) ⟨h + 1, j, by omega, hjB, h1', h2, rfl⟩ (by simp only [slotN, ruW, ASt.get, aget, ↓reduceIte, Nat.reduceLT, Nat.reduceEqDiff, eq_self]; omega)
    · have d3 : decide (cmpI B[h].n x.n < 0) = false := by rw [cmpI_neg]; simpa using hxy
      have h2' : ∀ t (h' : t < B.length), h ≤ t → ¬ B[t].n < x.n := fun t h' h3 => by have := hmono2 t h' h3; omega
      generalize B[h] = y at *
      generalize pre ++ x :: (B ++ post) = l at *
      (repeat' (first | simp (maxSteps := 5000000) (implicitDefEqProofs := false) only [ruA, ruB, aEv, aBin, bin2, aConv, ASt.get, aget, ASt.put, ↓reduceIte, Nat.reduceLT, Nat.reduceEqDiff, eq_self, tyI_3, tyI_123, d1', hH, eH] | (with_reducible refine aIf_split (fun _ => ?_) (fun _ => ?_)) | (with_reducible refine aSel_split (fun _ => ?_) (fun _ => ?_)) | (with_reducible refine aGd_split (fun _ => ?_) (fun _ => ?_))))
      refine aDraw_held [] [0, 1, 2, 3, 4, 5, 6, 7, 8] (.exec 9 (.take 10 .done)) (by kernel_rfl) (by simp [ATab.get_cons]) ?_
      (repeat' (first | simp (maxSteps := 5000000) (implicitDefEqProofs := false) only [ruA, ruB, aEv, aTake, aLoad, aIndex, ASt.get, aget, ASt.put, ↓reduceIte, reduceCtorEq, Nat.reduceLT, Nat.reduceEqDiff, Nat.reduceAdd, eq_self, aTakes, aFrom, tyE_92, tyA_95, tyS_95, row_at, hia, hxa, hih2, hyh, encP] | (with_reducible refine aIf_split (fun _ => ?_) (fun _ => ?_)) | (with_reducible refine aSel_split (fun _ => ?_) (fun _ => ?_)) | (with_reducible refine aGd_split (fun _ => ?_) (fun _ => ?_))))
      refine callV hc ?_
      (repeat' (first | simp (maxSteps := 5000000) (implicitDefEqProofs := false) only [ruA, ruB, aEv, aBin, bin2, ASt.get, aget, ASt.put, ↓reduceIte, Nat.reduceLT, Nat.reduceEqDiff, eq_self, aTakeE, d3] | (with_reducible refine aIf_split (fun _ => ?_) (fun _ => ?_)) | (with_reducible refine aSel_split (fun _ => ?_) (fun _ => ?_)) | (with_reducible refine aGd_split (fun _ => ?_) (fun _ => ?_))))
      exact roundI (weak_cut1 (by (first | ((simp only [envIn, tabIn, envLt, tabLt, AObj.lt, AV.lt, AV.ltL, ruW, ASt.get, aget, ↓reduceIte, reduceCtorEq, Nat.reduceLT, Nat.reduceEqDiff, eq_self]) <;> (repeat' apply And.intro) <;> first | (rw [wrapK (by omega)]; done) | (simp; done) | omega) | fail))) ⟨i, h, by omega, by omega, h1, h2', rfl⟩ (by simp only [slotN, ruW, ASt.get, aget, ↓reduceIte, Nat.reduceLT, Nat.reduceEqDiff, eq_self]; omega)
  · obtain rfl : i = j := by omega
    have d1 : decide (((m + i : Nat) : Int) < ((m + i : Nat) : Int)) = false := by simp
    have d1' : decide (m + i < m + i) = false := by simp
    have hst0 : pre ++ x :: (B ++ post) = pre ++ B.take 0 ++ x :: (B.drop 0 ++ post) := by simp
    have hfin : T = pre ++ B.take i ++ x :: (B.drop i ++ post) := by
      rw [← hT, ins_first hB ht h1 h2]
      simp
    rw [hfin]
    have eI1 : IntKind.i64.wrap (((m + i : Nat) : Int) - 1) = ((a + i : Nat) : Int) := by rw [wrap_in (by omega) (by omega)]; omega
    (repeat' (first | simp (maxSteps := 5000000) (implicitDefEqProofs := false) only [ruA, ruB, aEv, aBin, bin2, ASt.get, aget, ASt.put, ↓reduceIte, Nat.reduceLT, Nat.reduceEqDiff, eq_self, d1'] | (with_reducible refine aIf_split (fun _ => ?_) (fun _ => ?_)) | (with_reducible refine aSel_split (fun _ => ?_) (fun _ => ?_)) | (with_reducible refine aGd_split (fun _ => ?_) (fun _ => ?_))))
    refine aLoop_of (fun st => ∃ q : Nat, q ≤ i ∧ st = ⟨220, [(0, .osl 0), (10, eI ((m + i : Nat) : Int)), (13, eI ((a + q : Nat) : Int))], [(0, some (.row 95 3 ((pre ++ B.take q ++ x :: (B.drop q ++ post)).map encP)))], 1⟩) (fun st => a + i - slotN st 13) ⟨_, (weak_cut1 (by (first | ((simp only [envIn, tabIn, envLt, tabLt, AObj.lt, AV.lt, ruW, ASt.get, aget, ↓reduceIte, reduceCtorEq, Nat.reduceLT, Nat.reduceEqDiff, eq_self, hst0, Nat.add_zero]) <;> (repeat' apply And.intro) <;> first | (rw [wrapK (by omega)]; done) | (simp; done) | omega) | fail))), 0, Nat.zero_le _, rfl⟩ ?_
    rintro _ ⟨q, hq, rfl⟩
    by_cases hlt2 : q < i
    · have d2 : decide (((a + q : Nat) : Int) < ((a + i : Nat) : Int)) = true := by simp only [decide_eq_true_eq]; omega
      have d2' : decide (a + q < a + i) = true := by simp only [decide_eq_true_eq]; omega
      have e3 : IntKind.i64.wrap (((a + q : Nat) : Int) + 1) = ((a + (q + 1) : Nat) : Int) := by rw [wrap_in (by omega) (by omega)]; omega
      have hqB : q < B.length := by omega
      have tB : B.take (q + 1) = B.take q ++ [B[q]] := List.take_succ_eq_append_getElem hqB
      have dB : B.drop q = B[q] :: B.drop (q + 1) := List.drop_eq_getElem_cons hqB
      have lB : (B.take q).length = q := by rw [List.length_take]; omega
      have hold : pre ++ B.take q ++ x :: (B.drop q ++ post) = (pre ++ B.take q) ++ x :: ([] ++ B[q] :: (B.drop (q + 1) ++ post)) := by rw [dB]; simp only [List.append_assoc, List.cons_append, List.nil_append]
      have hnew : pre ++ B.take (q + 1) ++ x :: (B.drop (q + 1) ++ post) = (pre ++ B.take q) ++ B[q] :: ([] ++ x :: (B.drop (q + 1) ++ post)) := by rw [tB]; simp only [List.append_assoc, List.cons_append, List.nil_append]
      have hsw := sw_app (X := pre ++ B.take q) (Y := []) (Z := B.drop (q + 1) ++ post) (a := x) (b := B[q]) (i := a + q) (j := a + (q + 1)) (by rw [List.length_append]; omega) (by rw [List.length_append]; simp; omega)
      obtain ⟨hi, hxi⟩ := getEl (show (pre ++ B.take q ++ x :: (B.drop q ++ post))[a + q]? = some x from get_mid (by rw [List.length_append]; omega))
      obtain ⟨hj, hyj⟩ := getEl (show (pre ++ B.take q ++ x :: (B.drop q ++ post))[a + (q + 1)]? = some B[q] from by
        rw [hold, show (pre ++ B.take q) ++ x :: ([] ++ B[q] :: (B.drop (q + 1) ++ post)) = ((pre ++ B.take q) ++ [x]) ++ B[q] :: (B.drop (q + 1) ++ post) by simp only [List.append_assoc, List.cons_append, List.nil_append]]
        exact get_mid (by rw [List.length_append, List.length_append]; simp; omega))
      rw [← hold, ← hnew] at hsw
      generalize B[q] = y at *
      generalize hmm : pre ++ B.take q ++ x :: (B.drop q ++ post) = l at *
      have hsm := sw_map hi hj
      rw [hsw, hxi, hyj] at hsm
      (repeat' (first | simp (maxSteps := 5000000) (implicitDefEqProofs := false) only [ruA, ruB, aEv, aBin, bin2, ASt.get, aget, ASt.put, ↓reduceIte, Nat.reduceLT, Nat.reduceEqDiff, eq_self, eI1, d2'] | (with_reducible refine aIf_split (fun _ => ?_) (fun _ => ?_)) | (with_reducible refine aSel_split (fun _ => ?_) (fun _ => ?_)) | (with_reducible refine aGd_split (fun _ => ?_) (fun _ => ?_))))
      refine aDraw_held [0] [0, 1, 2, 3, 4, 5, 6, 7, 8, 10, 11, 12] (.two 9 (.exec 13 (.take 14 (.exec 15 (.take 16 (.exec 17 .done))))) 13 (.exec 9 (.take 14 (.exec 15 (.take 16 (.exec 17 .done)))))) (by kernel_rfl) (by simp [ATab.get_cons]) ?_
      (repeat' (first | simp (maxSteps := 5000000) (implicitDefEqProofs := false) only [ruA, ruB, aEv, aTake, aLoad, aIndex, aBin, bin2, ASt.get, aget, ASt.put, aCells, oneC, oneCL, treeC, treeL, Value.oneCell', ↓reduceIte, reduceCtorEq, Nat.reduceLT, Nat.reduceEqDiff, Nat.reduceAdd, Nat.reduceLeDiff, eq_self, aExecS, aStoreB, aTakes, aTakeE, aMay, tyE_92, tyA_95, tyS_95, row_at, e3, hj, hi, hxi, hyj, encP, drop3, List.length_set] | (with_reducible refine aIf_split (fun _ => ?_) (fun _ => ?_)) | (with_reducible refine aSel_split (fun _ => ?_) (fun _ => ?_)) | (with_reducible refine aGd_split (fun _ => ?_) (fun _ => ?_)) | (with_reducible refine aDraw_quiet (by kernel_rfl) ?_) | (with_reducible apply And.intro)))
      all_goals first
        | rfl
        | omega
        | exact roundI (weak_cut1 (by (first | ((simp only [envIn, tabIn, envLt, tabLt, AObj.lt, AV.lt, ruW, ASt.get, aget, ↓reduceIte, reduceCtorEq, Nat.reduceLT, Nat.reduceEqDiff, eq_self, hsm]) <;> (repeat' apply And.intro) <;> first | (rw [wrapK (by omega)]; done) | (simp; done) | omega) | fail))) ⟨q + 1, by omega, rfl⟩ (by simp only [slotN, ruW, ASt.get, aget, ↓reduceIte, Nat.reduceLT, Nat.reduceEqDiff, eq_self]; omega)
        | trace_state
    · obtain rfl : q = i := by omega
      have d2 : decide (((a + q : Nat) : Int) < ((a + q : Nat) : Int)) = false := by simp
      have d2' : decide (a + q < a + q) = false := by simp
      (repeat' (first | simp (maxSteps := 5000000) (implicitDefEqProofs := false) only [ruA, ruB, aEv, aBin, bin2, ASt.get, aget, ASt.put, ↓reduceIte, reduceCtorEq, Nat.reduceLT, Nat.reduceEqDiff, eq_self, eI1, d2', aRetM_r] | (with_reducible refine aIf_split (fun _ => ?_) (fun _ => ?_)) | (with_reducible refine aSel_split (fun _ => ?_) (fun _ => ?_)) | (with_reducible refine aGd_split (fun _ => ?_) (fun _ => ?_)) | (with_reducible refine aDraw_quiet (by kernel_rfl) ?_)))
end
section
open Go.RowKit
set_option maxRecDepth 100000 in
set_option maxHeartbeats 8000000 in
theorem symTwo_M (g : FuncId) (hg : CmpOk g) (pre A post : List Pt) (x : Pt) (a m b : Nat) (ha : a = pre.length) (hm : m = a + A.length) (hb : b = m + 1) (hA : Srt A) (hA2 : 2 ≤ A.length) (ht : ∀ y ∈ A, y.t < x.t) (hl : pre.length + A.length + post.length ≤ 1000000) : AMut Tryz.prog 102 95 3 ((pre ++ A ++ x :: post).map encP) [eI (a : Int), eI (m : Int), eI (b : Int), .fn g []] ((pre ++ srt (A ++ [x]) ++ post).map encP) := by
  have e0 : IntKind.i64.wrap ((m : Int) - (a : Int)) = (A.length : Int) := by rw [wrap_in (by omega) (by omega)]; omega
  have d0 : ((A.length : Int) == 1) = false := by simp; omega
  have e0' : IntKind.i64.wrap ((b : Int) - (m : Int)) = 1 := by rw [wrap_in (by omega) (by omega)]; omega
  have d0' : ((1 : Int) == 1) = true := by decide
  obtain ⟨T, hT⟩ : ∃ T, pre ++ srt (A ++ [x]) ++ post = T := ⟨_, rfl⟩
  rw [hT]
  refine amut_of_code mixedT Tryz.func102 rfl (by decide) Tryz.ntmps102 Tryz.results102 rfl (by kernel_rfl) ?_
  (repeat' (first | simp (maxSteps := 5000000) (implicitDefEqProofs := false) only [ruA, ruB, aEv, aBin, bin2, ASt.get, aget, ASt.put, envOf, ↓reduceIte, Nat.reduceLT, Nat.reduceEqDiff, Nat.reduceAdd, eq_self, e0, d0, e0', d0'] | (with_reducible refine aIf_split (fun _ => ?_) (fun _ => ?_)) | (with_reducible refine aSel_split (fun _ => ?_) (fun _ => ?_)) | (with_reducible refine aGd_split (fun _ => ?_) (fun _ => ?_))))
  refine aLoop_of (fun st => ∃ i j : Nat, i ≤ j ∧ j ≤ A.length ∧ (∀ t (h : t < A.length), t < i → ¬ x.n < A[t].n) ∧ (∀ t (h : t < A.length), j ≤ t → x.n < A[t].n) ∧ st = ⟨220, [(0, .osl 0), (2, eI (m : Int)), (4, .fn g []), (14, eI ((a + i : Nat) : Int)), (15, eI ((a + j : Nat) : Int))], [(0, some (.row 95 3 ((pre ++ A ++ x :: post).map encP)))], 1⟩) (fun st => slotN st 15 - slotN st 14) ⟨_, (weak_cut1 (by (first | ((simp only [envIn, tabIn, envLt, tabLt, AObj.lt, AV.lt, AV.ltL, ruW, ASt.get, aget, ↓reduceIte, reduceCtorEq, Nat.reduceLT, Nat.reduceEqDiff, eq_self, hm, Nat.add_zero]) <;> (repeat' apply And.intro) <;> first | (rw [wrapK (by omega)]; done) | (simp; done) | omega) | fail))), 0, A.length, Nat.zero_le _, Nat.le_refl _, fun t h h2 => by omega, fun t h h2 => by omega, rfl⟩ ?_
  rintro _ ⟨i, j, hij, hjA, h1, h2, rfl⟩
  by_cases hlt : i < j
  · have d1 : decide (((a + i : Nat) : Int) < ((a + j : Nat) : Int)) = true := by simp only [decide_eq_true_eq]; omega
    have d1' : decide (a + i < a + j) = true := by simp only [decide_eq_true_eq]; omega
    have hH := half_in (a + i) (a + j) (by omega)
    obtain ⟨h, hh, hih, hhj⟩ : ∃ h, (a + i + (a + j)) / 2 = a + h ∧ i ≤ h ∧ h < j := ⟨(a + i + (a + j)) / 2 - a, by omega, by omega, by omega⟩
    rw [hh] at hH
    have eH : IntKind.i64.wrap ((a + h : Nat) : Int) = ((a + h : Nat) : Int) := wrap_in (by omega) (by omega)
    have eH1 : IntKind.i64.wrap (((a + h : Nat) : Int) + 1) = ((a + (h + 1) : Nat) : Int) := by rw [wrap_in (by omega) (by omega)]; omega
    have hhA : h < A.length := by omega
    obtain ⟨hia, hxa⟩ := getEl (show (pre ++ A ++ x :: post)[m]? = some x from get_mid (by rw [List.length_append]; omega))
    obtain ⟨hih2, hyh⟩ := getEl (show (pre ++ A ++ x :: post)[a + h]? = some A[h] from by
      rw [List.append_assoc, List.getElem?_append_right (by omega), List.getElem?_append_left (by omega), List.getElem?_eq_getElem (by omega)]
      congr 2
      omega)
    have hc := hg x A[h]
    have hmono1 : ∀ t (h' : t < A.length), t ≤ h → A[t].n ≤ A[h].n := fun t h' h3 => n_mono hA h3 hhA
    have hmono2 : ∀ t (h' : t < A.length), h ≤ t → A[h].n ≤ A[t].n := fun t h' h3 => n_mono hA h3 h'
    by_cases hxy : x.n < A[h].n
    · have d3 : decide (cmpI x.n A[h].n < 0) = true := by rw [cmpI_neg]; simpa using hxy
      have h2' : ∀ t (h' : t < A.length), h ≤ t → x.n < A[t].n := fun t h' h3 => by have := hmono2 t h' h3; omega
      generalize A[h] = y at *
      generalize pre ++ A ++ x :: post = l at *
      (repeat' (first | simp (maxSteps := 5000000) (implicitDefEqProofs := false) only [ruA, ruB, aEv, aBin, bin2, aConv, ASt.get, aget, ASt.put, ↓reduceIte, Nat.reduceLT, Nat.reduceEqDiff, eq_self, tyI_3, tyI_123, d1', hH, eH] | (with_reducible refine aIf_split (fun _ => ?_) (fun _ => ?_)) | (with_reducible refine aSel_split (fun _ => ?_) (fun _ => ?_)) | (with_reducible refine aGd_split (fun _ => ?_) (fun _ => ?_))))
      refine aDraw_held [] [0, 1, 2, 3, 4, 5, 6, 7, 8] (.exec 9 (.take 10 (.take 11 .done))) (by kernel_rfl) (by simp [ATab.get_cons]) ?_
      (repeat' (first | simp (maxSteps := 5000000) (implicitDefEqProofs := false) only [ruA, ruB, aEv, aTake, aLoad, aIndex, ASt.get, aget, ASt.put, ↓reduceIte, reduceCtorEq, Nat.reduceLT, Nat.reduceEqDiff, Nat.reduceAdd, eq_self, aTakes, aFrom, tyE_92, tyA_95, tyS_95, row_at, hia, hxa, hih2, hyh, encP] | (with_reducible refine aIf_split (fun _ => ?_) (fun _ => ?_)) | (with_reducible refine aSel_split (fun _ => ?_) (fun _ => ?_)) | (with_reducible refine aGd_split (fun _ => ?_) (fun _ => ?_))))
      refine callV hc ?_
      (repeat' (first | simp (maxSteps := 5000000) (implicitDefEqProofs := false) only [ruA, ruB, aEv, aBin, bin2, aUn, un1, ASt.get, aget, ASt.put, ↓reduceIte, Nat.reduceLT, Nat.reduceEqDiff, eq_self, aTakeE, d3] | (with_reducible refine aIf_split (fun _ => ?_) (fun _ => ?_)) | (with_reducible refine aSel_split (fun _ => ?_) (fun _ => ?_)) | (with_reducible refine aGd_split (fun _ => ?_) (fun _ => ?_))))
      exact roundI (weak_cut1 (by (first | ((simp only [envIn, tabIn, envLt, tabLt, AObj.lt, AV.lt, AV.ltL, ruW, ASt.get, aget, ↓reduceIte, reduceCtorEq, Nat.reduceLT, Nat.reduceEqDiff, eq_self]) <;> (repeat' apply And.intro) <;> first | (rw [wrapK (by omega)]; done) | (simp; done) | omega) | fail))) ⟨i, h, by omega, by omega, h1, h2', rfl⟩ (by simp only [slotN, ruW, ASt.get, aget, ↓reduceIte, Nat.reduceLT, Nat.reduceEqDiff, eq_self]; omega)
    · have d3 : decide (cmpI x.n A[h].n < 0) = false := by rw [cmpI_neg]; simpa using hxy
      have h1' : ∀ t (h' : t < A.length), t < h + 1 → ¬ x.n < A[t].n := fun t h' h3 => by have := hmono1 t h' (by omega); omega
      generalize A[h] = y at *
      generalize pre ++ A ++ x :: post = l at *
      (repeat' (first | simp (maxSteps := 5000000) (implicitDefEqProofs := false) only [ruA, ruB, aEv, aBin, bin2, aConv, ASt.get, aget, ASt.put, ↓reduceIte, Nat.reduceLT, Nat.reduceEqDiff, eq_self, tyI_3, tyI_123, d1', hH, eH] | (with_reducible refine aIf_split (fun _ => ?_) (fun _ => ?_)) | (with_reducible refine aSel_split (fun _ => ?_) (fun _ => ?_)) | (with_reducible refine aGd_split (fun _ => ?_) (fun _ => ?_))))
      refine aDraw_held [] [0, 1, 2, 3, 4, 5, 6, 7, 8] (.exec 9 (.take 10 (.take 11 .done))) (by kernel_rfl) (by simp [ATab.get_cons]) ?_
      (repeat' (first | simp (maxSteps := 5000000) (implicitDefEqProofs := false) only [ruA, ruB, aEv, aTake, aLoad, aIndex, ASt.get, aget, ASt.put, ↓reduceIte, reduceCtorEq, Nat.reduceLT, Nat.reduceEqDiff, Nat.reduceAdd, eq_self, aTakes, aFrom, tyE_92, tyA_95, tyS_95, row_at, hia, hxa, hih2, hyh, encP] | (with_reducible refine aIf_split (fun _ => ?_) (fun _ => ?_)) | (with_reducible refine aSel_split (fun _ => ?_) (fun _ => ?_)) | (with_reducible refine aGd_split (fun _ => ?_) (fun _ => ?_))))
      refine callV hc ?_
      (repeat' (first | simp (maxSteps := 5000000) (implicitDefEqProofs := false) only [ruA, ruB, aEv, aBin, bin2, aUn, un1, ASt.get, aget, ASt.put, ↓reduceIte, Nat.reduceLT, Nat.reduceEqDiff, eq_self, aTakeE, d3, eH1] | (with_reducible refine aIf_split (fun _ => ?_) (fun _ => ?_)) | (with_reducible refine aSel_split (fun _ => ?_) (fun _ => ?_)) | (with_reducible refine aGd_split (fun _ => ?_) (fun _ => ?_))))
      exact roundI (weak_cut1 (by (first | ((simp only [envIn, tabIn, envLt, tabLt, AObj.lt, AV.lt, AV.ltL, ruW, ASt.get, aget, ↓reduceIte, reduceCtorEq, Nat.reduceLT, Nat.reduceEqDiff, eq_self]) <;> (repeat' apply And.intro) <;> first | (rw [wrapK (by omega)]; done) | (simp; done) | omega) | fail))) ⟨h + 1, j, by omega, hjA, h1', h2, rfl⟩ (by simp only [slotN, ruW, ASt.get, aget, ↓reduceIte, Nat.reduceLT, Nat.reduceEqDiff, eq_self]; omega)
  · obtain rfl : i = j := by omega
    have d1 : decide (((a + i : Nat) : Int) < ((a + i : Nat) : Int)) = false := by simp
    have d1' : decide (a + i < a + i) = false := by simp
    have hst0 : pre ++ A ++ x :: post = pre ++ A.take A.length ++ x :: (A.drop A.length ++ post) := by simp
    have hfin : T = pre ++ A.take i ++ x :: (A.drop i ++ post) := by
      rw [← hT, ins_last hA ht h1 h2]
      simp
    rw [hfin]
    (repeat' (first | simp (maxSteps := 5000000) (implicitDefEqProofs := false) only [ruA, ruB, aEv, aBin, bin2, ASt.get, aget, ASt.put, ↓reduceIte, Nat.reduceLT, Nat.reduceEqDiff, eq_self, d1'] | (with_reducible refine aIf_split (fun _ => ?_) (fun _ => ?_)) | (with_reducible refine aSel_split (fun _ => ?_) (fun _ => ?_)) | (with_reducible refine aGd_split (fun _ => ?_) (fun _ => ?_))))
    refine aLoop_of (fun st => ∃ q : Nat, i ≤ q ∧ q ≤ A.length ∧ st = ⟨220, [(0, .osl 0), (14, eI ((a + i : Nat) : Int)), (17, eI ((a + q : Nat) : Int))], [(0, some (.row 95 3 ((pre ++ A.take q ++ x :: (A.drop q ++ post)).map encP)))], 1⟩) (fun st => slotN st 17) ⟨_, (weak_cut1 (by (first | ((simp only [envIn, tabIn, envLt, tabLt, AObj.lt, AV.lt, ruW, ASt.get, aget, ↓reduceIte, reduceCtorEq, Nat.reduceLT, Nat.reduceEqDiff, eq_self, hst0, hm]) <;> (repeat' apply And.intro) <;> first | (rw [wrapK (by omega)]; done) | (simp; done) | omega) | fail))), A.length, hjA, Nat.le_refl _, rfl⟩ ?_
    rintro _ ⟨q, hiq, hqA, rfl⟩
    cases q with
    | zero =>
      obtain rfl : i = 0 := by omega
      have d2 : decide (((a + 0 : Nat) : Int) < ((a + 0 : Nat) : Int)) = false := by simp
      have d2' : decide (a < a) = false := by simp
      have d2'' : decide ((a : Int) < (a : Int)) = false := by simp
      (repeat' (first | simp (maxSteps := 5000000) (implicitDefEqProofs := false) only [ruA, ruB, aEv, aBin, bin2, ASt.get, aget, ASt.put, ↓reduceIte, reduceCtorEq, Nat.reduceLT, Nat.reduceEqDiff, eq_self, d2', aRetM_r] | (with_reducible refine aIf_split (fun _ => ?_) (fun _ => ?_)) | (with_reducible refine aSel_split (fun _ => ?_) (fun _ => ?_)) | (with_reducible refine aGd_split (fun _ => ?_) (fun _ => ?_)) | (with_reducible refine aDraw_quiet (by kernel_rfl) ?_)))
    | succ q =>
      by_cases hlt2 : i < q + 1
      · have d2 : decide (((a + i : Nat) : Int) < ((a + (q + 1) : Nat) : Int)) = true := by simp only [decide_eq_true_eq]; omega
        have d2' : decide (a + i < a + (q + 1)) = true := by simp only [decide_eq_true_eq]; omega
        have e3 : IntKind.i64.wrap (((a + (q + 1) : Nat) : Int) - 1) = ((a + q : Nat) : Int) := by rw [wrap_in (by omega) (by omega)]; omega
        have hqA2 : q < A.length := by omega
        have tA : A.take (q + 1) = A.take q ++ [A[q]] := List.take_succ_eq_append_getElem hqA2
        have dA : A.drop q = A[q] :: A.drop (q + 1) := List.drop_eq_getElem_cons hqA2
        have lA : (A.take q).length = q := by rw [List.length_take]; omega
        have hold : pre ++ A.take (q + 1) ++ x :: (A.drop (q + 1) ++ post) = (pre ++ A.take q) ++ A[q] :: ([] ++ x :: (A.drop (q + 1) ++ post)) := by rw [tA]; simp only [List.append_assoc, List.cons_append, List.nil_append]
        have hnew : pre ++ A.take q ++ x :: (A.drop q ++ post) = (pre ++ A.take q) ++ x :: ([] ++ A[q] :: (A.drop (q + 1) ++ post)) := by rw [dA]; simp only [List.append_assoc, List.cons_append, List.nil_append]
        have hsw := sw_app (X := pre ++ A.take q) (Y := []) (Z := A.drop (q + 1) ++ post) (a := A[q]) (b := x) (i := a + q) (j := a + (q + 1)) (by rw [List.length_append]; omega) (by rw [List.length_append]; simp; omega)
        obtain ⟨hj, hxj⟩ := getEl (show (pre ++ A.take (q + 1) ++ x :: (A.drop (q + 1) ++ post))[a + (q + 1)]? = some x from get_mid (by rw [List.length_append, List.length_take]; omega))
        obtain ⟨hi, hyi⟩ := getEl (show (pre ++ A.take (q + 1) ++ x :: (A.drop (q + 1) ++ post))[a + q]? = some A[q] from by rw [hold]; exact get_mid (by rw [List.length_append]; omega))
        rw [← hold, ← hnew, sw_comm _ (by omega)] at hsw
        generalize A[q] = y at *
        generalize hmm : pre ++ A.take (q + 1) ++ x :: (A.drop (q + 1) ++ post) = l at *
        have hsm := sw_map hj hi
        rw [hsw, hxj, hyi] at hsm
        (repeat' (first | simp (maxSteps := 5000000) (implicitDefEqProofs := false) only [ruA, ruB, aEv, aBin, bin2, ASt.get, aget, ASt.put, ↓reduceIte, Nat.reduceLT, Nat.reduceEqDiff, eq_self, d2'] | (with_reducible refine aIf_split (fun _ => ?_) (fun _ => ?_)) | (with_reducible refine aSel_split (fun _ => ?_) (fun _ => ?_)) | (with_reducible refine aGd_split (fun _ => ?_) (fun _ => ?_))))
        refine aDraw_held [0] [0, 1, 2, 3, 4, 5, 6, 7, 8, 10, 11, 12] (.two 9 (.exec 13 (.take 14 (.exec 15 (.take 16 (.exec 17 .done))))) 13 (.exec 9 (.take 14 (.exec 15 (.take 16 (.exec 17 .done)))))) (by kernel_rfl) (by simp [ATab.get_cons]) ?_
        (repeat' (first | simp (maxSteps := 5000000) (implicitDefEqProofs := false) only [ruA, ruB, aEv, aTake, aLoad, aIndex, aBin, bin2, ASt.get, aget, ASt.put, aCells, oneC, oneCL, treeC, treeL, Value.oneCell', ↓reduceIte, reduceCtorEq, Nat.reduceLT, Nat.reduceEqDiff, Nat.reduceAdd, Nat.reduceLeDiff, eq_self, aExecS, aStoreB, aTakes, aTakeE, aMay, tyE_92, tyA_95, tyS_95, row_at, e3, hj, hi, hxj, hyi, encP, drop3, List.length_set] | (with_reducible refine aIf_split (fun _ => ?_) (fun _ => ?_)) | (with_reducible refine aSel_split (fun _ => ?_) (fun _ => ?_)) | (with_reducible refine aGd_split (fun _ => ?_) (fun _ => ?_)) | (with_reducible refine aDraw_quiet (by kernel_rfl) ?_) | (with_reducible apply And.intro)))
        all_goals first
          | rfl
          | omega
          | exact roundI (weak_cut1 (by (first | ((simp only [envIn, tabIn, envLt, tabLt, AObj.lt, AV.lt, ruW, ASt.get, aget, ↓reduceIte, reduceCtorEq, Nat.reduceLT, Nat.reduceEqDiff, eq_self, hsm]) <;> (repeat' apply And.intro) <;> first | (rw [wrapK (by omega)]; done) | (simp; done) | omega) | fail))) ⟨q, by omega, by omega, rfl⟩ (by simp only [slotN, ruW, ASt.get, aget, ↓reduceIte, Nat.reduceLT, Nat.reduceEqDiff, eq_self]; omega)
          | trace_state
      · obtain rfl : i = q + 1 := by omega
        have d2 : decide (((a + (q + 1) : Nat) : Int) < ((a + (q + 1) : Nat) : Int)) = false := by simp
        have d2' : decide (a + (q + 1) < a + (q + 1)) = false := by simp
        (repeat' (first | simp (maxSteps := 5000000) (implicitDefEqProofs := false) only [ruA, ruB, aEv, aBin, bin2, ASt.get, aget, ASt.put, ↓reduceIte, reduceCtorEq, Nat.reduceLT, Nat.reduceEqDiff, eq_self, d2', aRetM_r] | (with_reducible refine aIf_split (fun _ => ?_) (fun _ => ?_)) | (with_reducible refine aSel_split (fun _ => ?_) (fun _ => ?_)) | (with_reducible refine aGd_split (fun _ => ?_) (fun _ => ?_)) | (with_reducible refine aDraw_quiet (by kernel_rfl) ?_)))
end
section
open Go.RowKit
theorem use_with {R G : Prop} (h : R → G) (hR : R) : G := h hR
set_option maxRecDepth 100000 in
set_option maxHeartbeats 16000000 in
theorem symMerge_M (g : FuncId) (hg : CmpOk g) : ∀ (N : Nat) (pre A B post : List Pt) (a m b : Nat), A.length + B.length = N → a = pre.length → m = a + A.length → b = m + B.length → 0 < A.length → 0 < B.length → Srt A → Srt B → (∀ x ∈ A, ∀ y ∈ B, x.t < y.t) → pre.length + A.length + B.length + post.length ≤ 1000000 →
    AMut Tryz.prog 102 95 3 ((pre ++ A ++ B ++ post).map encP) [eI (a : Int), eI (m : Int), eI (b : Int), .fn g []] ((pre ++ srt (A ++ B) ++ post).map encP) := by
  intro N
  induction N using Nat.strongRecOn with
  | _ N ih =>
  intro pre A B post a m b hN ha hm hb hA0 hB0 hA hB ht hl
  by_cases hA1 : A.length = 1
  · obtain ⟨x, rfl⟩ := List.length_eq_one_iff.1 hA1
    have := symOne_M g hg pre B post x a m b ha (by simpa using hm) hb hB (fun y hy => ht x (by simp) y hy) (by simp at hl; omega)
    rwa [show pre ++ x :: (B ++ post) = pre ++ [x] ++ B ++ post by simp] at this
  by_cases hB1 : B.length = 1
  · obtain ⟨x, rfl⟩ := List.length_eq_one_iff.1 hB1
    have := symTwo_M g hg pre A post x a m b ha hm (by simpa using hb) hA (by omega) (fun y hy => ht y hy x (by simp)) (by simp at hl; omega)
    rwa [show pre ++ A ++ x :: post = pre ++ A ++ [x] ++ post by simp] at this
  obtain ⟨p, hp⟩ : ∃ p, A.length = p := ⟨_, rfl⟩
  obtain ⟨q, hq⟩ : ∃ q, B.length = q := ⟨_, rfl⟩
  rw [hp] at hN hm hA0 hA1 hl
  rw [hq] at hN hb hB0 hB1 hl
  obtain ⟨M, hM⟩ : ∃ M, (p + q) / 2 = M := ⟨_, rfl⟩
  have e0 : IntKind.i64.wrap ((m : Int) - (a : Int)) = (p : Int) := by rw [wrap_in (by omega) (by omega)]; omega
  have d0 : ((p : Int) == 1) = false := by simp; omega
  have e0' : IntKind.i64.wrap ((b : Int) - (m : Int)) = (q : Int) := by rw [wrap_in (by omega) (by omega)]; omega
  have d0' : ((q : Int) == 1) = false := by simp; omega
  have hH := half_in a b (by omega)
  have hab : (a + b) / 2 = a + M := by omega
  rw [hab] at hH
  have eH : IntKind.i64.wrap ((a + M : Nat) : Int) = ((a + M : Nat) : Int) := wrap_in (by omega) (by omega)
  have en : IntKind.i64.wrap (((a + M : Nat) : Int) + (m : Int)) = ((a + M + m : Nat) : Int) := by rw [wrap_in (by omega) (by omega)]; omega
  obtain ⟨P, hP⟩ : ∃ P, P + 1 = a + M + m := ⟨a + M + m - 1, by omega⟩
  have ep : IntKind.i64.wrap (((a + M + m : Nat) : Int) - 1) = (P : Int) := by rw [wrap_in (by omega) (by omega)]; omega
  have es : M < p → IntKind.i64.wrap (((a + M + m : Nat) : Int) - (b : Int)) = ((a + (M - q) : Nat) : Int) := fun h => by rw [wrap_in (by omega) (by omega)]; omega
  obtain ⟨T, hT⟩ : ∃ T, pre ++ srt (A ++ B) ++ post = T := ⟨_, rfl⟩
  rw [hT]
  refine amut_of_code mixedT Tryz.func102 rfl (by decide) Tryz.ntmps102 Tryz.results102 rfl (by kernel_rfl) ?_
  apply use_with
  · intro hround
    (repeat' (first | simp (maxSteps := 5000000) (implicitDefEqProofs := false) only [ruA, ruB, aEv, aBin, bin2, aConv, ASt.get, aget, ASt.put, envOf, ↓reduceIte, Nat.reduceLT, Nat.reduceEqDiff, Nat.reduceAdd, eq_self, tyI_3, tyI_123, e0, d0, e0', d0', hH, eH, en, ep] | (with_reducible refine aIf_split (fun _ => ?_) (fun _ => ?_)) | (with_reducible refine aSel_split (fun _ => ?_) (fun _ => ?_)) | (with_reducible refine aGd_split (fun _ => ?_) (fun _ => ?_))))
    · rename_i hmid
      have hpM : M < p := by clear hround; simp at hmid; omega
      have es2 := es hpM
      exact aLoop_of (fun st => ∃ u v : Nat, u ≤ v ∧ M ≤ u + q ∧ v ≤ M ∧ v ≤ p ∧ CutLo A B M u ∧ CutHi A B M v ∧ st = ⟨220, [(0, .osl 0), (1, eI (a : Int)), (2, eI (m : Int)), (3, eI (b : Int)), (4, .fn g []), (18, eI ((a + M : Nat) : Int)), (19, eI ((a + M + m : Nat) : Int)), (20, eI ((a + u : Nat) : Int)), (21, eI ((a + v : Nat) : Int)), (22, eI (P : Int))], [(0, some (.row 95 3 ((pre ++ A ++ B ++ post).map encP)))], 1⟩) (fun st => slotN st 21 - slotN st 20) ⟨_, (weak_cut1 (by (first | ((simp only [envIn, tabIn, envLt, tabLt, AObj.lt, AV.lt, AV.ltL, ruW, ASt.get, aget, ↓reduceIte, reduceCtorEq, Nat.reduceLT, Nat.reduceEqDiff, eq_self, es2]) <;> (repeat' apply And.intro) <;> first | (rw [wrapK (by omega)]; done) | (simp; done) | omega) | fail))), M - q, M, by omega, by omega, Nat.le_refl _, by omega, fun t h h' h1 h2 => by omega, fun t h h' h1 h2 => by omega, rfl⟩ hround
    · rename_i hmid
      have hpM : p ≤ M := by clear hround; simp at hmid; omega
      exact aLoop_of (fun st => ∃ u v : Nat, u ≤ v ∧ M ≤ u + q ∧ v ≤ M ∧ v ≤ p ∧ CutLo A B M u ∧ CutHi A B M v ∧ st = ⟨220, [(0, .osl 0), (1, eI (a : Int)), (2, eI (m : Int)), (3, eI (b : Int)), (4, .fn g []), (18, eI ((a + M : Nat) : Int)), (19, eI ((a + M + m : Nat) : Int)), (20, eI ((a + u : Nat) : Int)), (21, eI ((a + v : Nat) : Int)), (22, eI (P : Int))], [(0, some (.row 95 3 ((pre ++ A ++ B ++ post).map encP)))], 1⟩) (fun st => slotN st 21 - slotN st 20) ⟨_, (weak_cut1 (by (first | ((simp only [envIn, tabIn, envLt, tabLt, AObj.lt, AV.lt, AV.ltL, ruW, ASt.get, aget, ↓reduceIte, reduceCtorEq, Nat.reduceLT, Nat.reduceEqDiff, eq_self, hm, Nat.add_zero]) <;> (repeat' apply And.intro) <;> first | (rw [wrapK (by omega)]; done) | (simp; done) | omega) | fail))), 0, p, by omega, by omega, by omega, Nat.le_refl _, fun t h h' h1 h2 => by omega, fun t h h' h1 h2 => by omega, rfl⟩ hround
  clear es ep e0 e0' d0 d0' hH eH en
  rintro _ ⟨u, v, huv, hMu, hvM, hvp, hLo, hHi, rfl⟩
  by_cases hlt : u < v
  · skip
    have d1 : decide (((a + u : Nat) : Int) < ((a + v : Nat) : Int)) = true := by simp only [decide_eq_true_eq]; omega
    have d1' : decide (a + u < a + v) = true := by simp only [decide_eq_true_eq]; omega
    have hH2 := half_in (a + u) (a + v) (by omega)
    obtain ⟨h, hh, hih, hhj⟩ : ∃ h, (a + u + (a + v)) / 2 = a + h ∧ u ≤ h ∧ h < v := ⟨(a + u + (a + v)) / 2 - a, by omega, by omega, by omega⟩
    rw [hh] at hH2
    have eH2 : IntKind.i64.wrap ((a + h : Nat) : Int) = ((a + h : Nat) : Int) := wrap_in (by omega) (by omega)
    have eH3 : IntKind.i64.wrap (((a + h : Nat) : Int) + 1) = ((a + (h + 1) : Nat) : Int) := by rw [wrap_in (by omega) (by omega)]; omega
    have eH4 : IntKind.i64.wrap ((P : Int) - ((a + h : Nat) : Int)) = ((m + (M - 1 - h) : Nat) : Int) := by rw [wrap_in (by omega) (by omega)]; omega
    have hhA : h < A.length := by omega
    have hhB : M - 1 - h < B.length := by omega
    obtain ⟨hi1, hy1⟩ := getEl (show (pre ++ A ++ B ++ post)[a + h]? = some A[h] from by
      rw [List.append_assoc, List.append_assoc, List.getElem?_append_right (by omega), List.getElem?_append_left (by omega), List.getElem?_eq_getElem (by omega)]
      congr 2
      omega)
    obtain ⟨hi2, hy2⟩ := getEl (show (pre ++ A ++ B ++ post)[m + (M - 1 - h)]? = some B[M - 1 - h] from by
      rw [List.append_assoc (pre ++ A), List.getElem?_append_right (by rw [List.length_append]; omega), List.getElem?_append_left (by rw [List.length_append]; omega), List.getElem?_eq_getElem (by rw [List.length_append]; omega)]
      congr 2
      rw [List.length_append]
      omega)
    have hc := hg B[M - 1 - h] A[h]
    by_cases hxy : B[M - 1 - h].n < A[h].n
    · have d3 : decide (cmpI B[M - 1 - h].n A[h].n < 0) = true := by rw [cmpI_neg]; simpa using hxy
      have hHi' := cutHi_step hA hB hhA hhB hxy
      generalize B[M - 1 - h] = y2 at *
      generalize A[h] = y1 at *
      generalize pre ++ A ++ B ++ post = l at *
      (repeat' (first | simp (maxSteps := 5000000) (implicitDefEqProofs := false) only [ruA, ruB, aEv, aBin, bin2, aConv, ASt.get, aget, ASt.put, ↓reduceIte, Nat.reduceLT, Nat.reduceEqDiff, eq_self, tyI_3, tyI_123, d1', hH2, eH2] | (with_reducible refine aIf_split (fun _ => ?_) (fun _ => ?_)) | (with_reducible refine aSel_split (fun _ => ?_) (fun _ => ?_)) | (with_reducible refine aGd_split (fun _ => ?_) (fun _ => ?_))))
      refine aDraw_held [] [0, 1, 2, 3, 4, 5, 6, 7, 8, 9, 10] (.exec 11 (.take 12 (.take 13 .done))) (by kernel_rfl) (by simp [ATab.get_cons]) ?_
      (repeat' (first | simp (maxSteps := 5000000) (implicitDefEqProofs := false) only [ruA, ruB, aEv, aTake, aLoad, aIndex, aBin, bin2, ASt.get, aget, ASt.put, ↓reduceIte, reduceCtorEq, Nat.reduceLT, Nat.reduceEqDiff, Nat.reduceAdd, eq_self, aTakes, aFrom, tyE_92, tyA_95, tyS_95, row_at, eH4, hi1, hy1, hi2, hy2, encP] | (with_reducible refine aIf_split (fun _ => ?_) (fun _ => ?_)) | (with_reducible refine aSel_split (fun _ => ?_) (fun _ => ?_)) | (with_reducible refine aGd_split (fun _ => ?_) (fun _ => ?_))))
      refine callV hc ?_
      (repeat' (first | simp (maxSteps := 5000000) (implicitDefEqProofs := false) only [ruA, ruB, aEv, aBin, bin2, aUn, un1, ASt.get, aget, ASt.put, ↓reduceIte, Nat.reduceLT, Nat.reduceEqDiff, eq_self, aTakeE, d3] | (with_reducible refine aIf_split (fun _ => ?_) (fun _ => ?_)) | (with_reducible refine aSel_split (fun _ => ?_) (fun _ => ?_)) | (with_reducible refine aGd_split (fun _ => ?_) (fun _ => ?_))))
      exact roundI (weak_cut1 (by (first | ((simp only [envIn, tabIn, envLt, tabLt, AObj.lt, AV.lt, AV.ltL, ruW, ASt.get, aget, ↓reduceIte, reduceCtorEq, Nat.reduceLT, Nat.reduceEqDiff, eq_self]) <;> (repeat' apply And.intro) <;> first | (rw [wrapK (by omega)]; done) | (simp; done) | omega) | fail))) ⟨u, h, by omega, by omega, by omega, by omega, hLo, hHi', rfl⟩ (by simp only [slotN, ruW, ASt.get, aget, ↓reduceIte, Nat.reduceLT, Nat.reduceEqDiff, eq_self]; omega)
    · have d3 : decide (cmpI B[M - 1 - h].n A[h].n < 0) = false := by rw [cmpI_neg]; simpa using hxy
      have hLo' := cutLo_step hA hB hhA hhB (by omega) hxy
      generalize B[M - 1 - h] = y2 at *
      generalize A[h] = y1 at *
      generalize pre ++ A ++ B ++ post = l at *
      (repeat' (first | simp (maxSteps := 5000000) (implicitDefEqProofs := false) only [ruA, ruB, aEv, aBin, bin2, aConv, ASt.get, aget, ASt.put, ↓reduceIte, Nat.reduceLT, Nat.reduceEqDiff, eq_self, tyI_3, tyI_123, d1', hH2, eH2] | (with_reducible refine aIf_split (fun _ => ?_) (fun _ => ?_)) | (with_reducible refine aSel_split (fun _ => ?_) (fun _ => ?_)) | (with_reducible refine aGd_split (fun _ => ?_) (fun _ => ?_))))
      refine aDraw_held [] [0, 1, 2, 3, 4, 5, 6, 7, 8, 9, 10] (.exec 11 (.take 12 (.take 13 .done))) (by kernel_rfl) (by simp [ATab.get_cons]) ?_
      (repeat' (first | simp (maxSteps := 5000000) (implicitDefEqProofs := false) only [ruA, ruB, aEv, aTake, aLoad, aIndex, aBin, bin2, ASt.get, aget, ASt.put, ↓reduceIte, reduceCtorEq, Nat.reduceLT, Nat.reduceEqDiff, Nat.reduceAdd, eq_self, aTakes, aFrom, tyE_92, tyA_95, tyS_95, row_at, eH4, hi1, hy1, hi2, hy2, encP] | (with_reducible refine aIf_split (fun _ => ?_) (fun _ => ?_)) | (with_reducible refine aSel_split (fun _ => ?_) (fun _ => ?_)) | (with_reducible refine aGd_split (fun _ => ?_) (fun _ => ?_))))
      refine callV hc ?_
      (repeat' (first | simp (maxSteps := 5000000) (implicitDefEqProofs := false) only [ruA, ruB, aEv, aBin, bin2, aUn, un1, ASt.get, aget, ASt.put, ↓reduceIte, Nat.reduceLT, Nat.reduceEqDiff, eq_self, aTakeE, d3, eH3] | (with_reducible refine aIf_split (fun _ => ?_) (fun _ => ?_)) | (with_reducible refine aSel_split (fun _ => ?_) (fun _ => ?_)) | (with_reducible refine aGd_split (fun _ => ?_) (fun _ => ?_))))
      exact roundI (weak_cut1 (by (first | ((simp only [envIn, tabIn, envLt, tabLt, AObj.lt, AV.lt, AV.ltL, ruW, ASt.get, aget, ↓reduceIte, reduceCtorEq, Nat.reduceLT, Nat.reduceEqDiff, eq_self]) <;> (repeat' apply And.intro) <;> first | (rw [wrapK (by omega)]; done) | (simp; done) | omega) | fail))) ⟨h + 1, v, by omega, by omega, by omega, by omega, hLo', hHi, rfl⟩ (by simp only [slotN, ruW, ASt.get, aget, ↓reduceIte, Nat.reduceLT, Nat.reduceEqDiff, eq_self]; omega)
  · obtain rfl : u = v := by omega
    have d1 : decide (((a + u : Nat) : Int) < ((a + u : Nat) : Int)) = false := by simp
    have d1' : decide (a + u < a + u) = false := by simp
    obtain ⟨w, hw⟩ : ∃ w, M - u = w := ⟨_, rfl⟩
    have hcut := sym_cut hA hB ht (M := M) (u := u) (by omega) hvM (by omega) hLo hHi
    rw [hw] at hcut
    have ee : IntKind.i64.wrap (((a + M + m : Nat) : Int) - ((a + u : Nat) : Int)) = ((m + w : Nat) : Int) := by rw [wrap_in (by omega) (by omega)]; omega
    have hwq : w ≤ q := by omega
    have huwM : u + w = M := by omega
    clear hLo hHi hlt huv hw
    have hAt := List.take_append_drop u A
    have hBt := List.take_append_drop w B
    have lA1 : (A.take u).length = u := by rw [List.length_take]; omega
    have lA2 : (A.drop u).length = p - u := by rw [List.length_drop]; omega
    have lB1 : (B.take w).length = w := by rw [List.length_take]; omega
    have lB2 : (B.drop w).length = q - w := by rw [List.length_drop]; omega
    have sA1 := hA.take u
    have sA2 := hA.drop u
    have sB1 := hB.take w
    have sB2 := hB.drop w
    have mA1 : ∀ x ∈ A.take u, x ∈ A := fun x h => List.mem_of_mem_take h
    have mA2 : ∀ x ∈ A.drop u, x ∈ A := fun x h => List.mem_of_mem_drop h
    have mB1 : ∀ x ∈ B.take w, x ∈ B := fun x h => List.mem_of_mem_take h
    have mB2 : ∀ x ∈ B.drop w, x ∈ B := fun x h => List.mem_of_mem_drop h
    generalize A.take u = A1 at *
    generalize A.drop u = A2 at *
    generalize B.take w = B1 at *
    generalize B.drop w = B2 at *
    have hR1 : (u < p ∧ 0 < w → AMut Tryz.prog 118 95 3 ((pre ++ A ++ B ++ post).map encP) [eI ((a + u : Nat) : Int), eI (m : Int), eI ((m + w : Nat) : Int), .fn g []] ((pre ++ A1 ++ B1 ++ (A2 ++ B2) ++ post).map encP)) ∧ (¬ (u < p ∧ 0 < w) → pre ++ A1 ++ B1 ++ (A2 ++ B2) ++ post = pre ++ A ++ B ++ post) := by
      constructor
      · intro hc
        have := rotate_M (pre ++ A1) A2 B1 (B2 ++ post) g (a + u) m (m + w) (by rw [List.length_append]; omega) (by omega) (by omega) (by omega) (by omega) (by simp only [List.length_append]; omega)
        rw [show pre ++ A1 ++ A2 ++ B1 ++ (B2 ++ post) = pre ++ A ++ B ++ post by rw [← hAt, ← hBt]; simp only [List.append_assoc], show pre ++ A1 ++ B1 ++ A2 ++ (B2 ++ post) = pre ++ A1 ++ B1 ++ (A2 ++ B2) ++ post by simp only [List.append_assoc]] at this
        exact this
      · intro hc
        rw [← hAt, ← hBt]
        by_cases hup : u < p
        · obtain rfl : B1 = [] := List.length_eq_zero_iff.1 (by omega)
          simp only [List.append_assoc, List.append_nil, List.nil_append]
        · obtain rfl : A2 = [] := List.length_eq_zero_iff.1 (by omega)
          simp only [List.append_assoc, List.append_nil, List.nil_append]
    have hR2 : (0 < u ∧ 0 < w → AMut Tryz.prog 102 95 3 ((pre ++ A1 ++ B1 ++ (A2 ++ B2) ++ post).map encP) [eI (a : Int), eI ((a + u : Nat) : Int), eI ((a + M : Nat) : Int), .fn g []] ((pre ++ srt (A1 ++ B1) ++ A2 ++ B2 ++ post).map encP)) ∧ (¬ (0 < u ∧ 0 < w) → pre ++ srt (A1 ++ B1) ++ A2 ++ B2 ++ post = pre ++ A1 ++ B1 ++ (A2 ++ B2) ++ post) := by
      constructor
      · intro hc
        have := ih (A1.length + B1.length) (by omega) pre A1 B1 (A2 ++ B2 ++ post) a (a + u) (a + M) rfl ha (by omega) (by omega) (by omega) (by omega) sA1 sB1 (fun x hx y hy => ht x (mA1 x hx) y (mB1 y hy)) (by simp only [List.length_append]; omega)
        rw [show pre ++ A1 ++ B1 ++ (A2 ++ B2 ++ post) = pre ++ A1 ++ B1 ++ (A2 ++ B2) ++ post by simp only [List.append_assoc], show pre ++ srt (A1 ++ B1) ++ (A2 ++ B2 ++ post) = pre ++ srt (A1 ++ B1) ++ A2 ++ B2 ++ post by simp only [List.append_assoc]] at this
        exact this
      · intro hc
        have : srt (A1 ++ B1) = A1 ++ B1 := by
          by_cases hu0 : 0 < u
          · obtain rfl : B1 = [] := List.length_eq_zero_iff.1 (by omega)
            rw [List.append_nil, srt_of sA1]
          · obtain rfl : A1 = [] := List.length_eq_zero_iff.1 (by omega)
            exact srt_of sB1
        rw [this]
        simp only [List.append_assoc]
    have hR3 : (u < p ∧ w < q → AMut Tryz.prog 102 95 3 ((pre ++ srt (A1 ++ B1) ++ A2 ++ B2 ++ post).map encP) [eI ((a + M : Nat) : Int), eI ((m + w : Nat) : Int), eI (b : Int), .fn g []] (T.map encP)) ∧ (¬ (u < p ∧ w < q) → T = pre ++ srt (A1 ++ B1) ++ A2 ++ B2 ++ post) := by
      have hT2 : T = pre ++ srt (A1 ++ B1) ++ srt (A2 ++ B2) ++ post := by rw [← hT, hcut]; simp only [List.append_assoc]
      constructor
      · intro hc
        have := ih (A2.length + B2.length) (by omega) (pre ++ srt (A1 ++ B1)) A2 B2 post (a + M) (m + w) b rfl (by rw [List.length_append, srt_len, List.length_append]; omega) (by omega) (by omega) (by omega) (by omega) sA2 sB2 (fun x hx y hy => ht x (mA2 x hx) y (mB2 y hy)) (by rw [List.length_append, srt_len, List.length_append]; omega)
        rw [← hT2] at this
        exact this
      · intro hc
        have : srt (A2 ++ B2) = A2 ++ B2 := by
          by_cases hu0 : u < p
          · obtain rfl : B2 = [] := List.length_eq_zero_iff.1 (by omega)
            rw [List.append_nil, srt_of sA2]
          · obtain rfl : A2 = [] := List.length_eq_zero_iff.1 (by omega)
            exact srt_of sB2
        rw [hT2, this]
        simp only [List.append_assoc]
    clear hT hcut ih hA hB ht sA1 sA2 sB1 sB2 mA1 mA2 mB1 mB2 hAt hBt
    generalize pre ++ A ++ B ++ post = R0 at *
    generalize pre ++ A1 ++ B1 ++ (A2 ++ B2) ++ post = R1 at *
    generalize pre ++ srt (A1 ++ B1) ++ A2 ++ B2 ++ post = R2 at *
    clear hp hq lA1 lA2 lB1 lB2
    by_cases cα : u < p <;> by_cases cβ : 0 < w <;> by_cases cγ : 0 < u <;> by_cases cδ : w < q
    all_goals
      simp only [cα, cβ, cγ, cδ, and_true, true_and, and_false, and_self, not_true_eq_false, not_false_eq_true, forall_const, false_implies] at hR1 hR2 hR3
      first | subst hR1 | skip
      first | subst hR2 | skip
      first | subst hR3 | skip
      have f1 : decide (((a + u : Nat) : Int) < (m : Int)) = decide (u < p) := decide_eq_decide.2 (by omega)
      have f1' : decide (a + u < m) = decide (u < p) := decide_eq_decide.2 (by omega)
      have f2 : decide ((m : Int) < ((m + w : Nat) : Int)) = decide (0 < w) := decide_eq_decide.2 (by omega)
      have f2' : decide (m < m + w) = decide (0 < w) := decide_eq_decide.2 (by omega)
      have f3 : decide ((a : Int) < ((a + u : Nat) : Int)) = decide (0 < u) := decide_eq_decide.2 (by omega)
      have f3' : decide (a < a + u) = decide (0 < u) := decide_eq_decide.2 (by omega)
      have f4 : decide (((a + u : Nat) : Int) < ((a + M : Nat) : Int)) = decide (0 < w) := decide_eq_decide.2 (by omega)
      have f4' : decide (a + u < a + M) = decide (0 < w) := decide_eq_decide.2 (by omega)
      have f5 : decide (((a + M : Nat) : Int) < ((m + w : Nat) : Int)) = decide (u < p) := decide_eq_decide.2 (by omega)
      have f5' : decide (a + M < m + w) = decide (u < p) := decide_eq_decide.2 (by omega)
      have f6 : decide (((m + w : Nat) : Int) < (b : Int)) = decide (w < q) := decide_eq_decide.2 (by omega)
      have f6' : decide (m + w < b) = decide (w < q) := decide_eq_decide.2 (by omega)
      simp only [cα, cβ, cγ, cδ, decide_true, decide_false] at f1 f1' f2 f2' f3 f3' f4 f4' f5 f5' f6 f6'
      (repeat' (first | simp (maxSteps := 5000000) (implicitDefEqProofs := false) only [ruA, ruB, aEv, aBin, bin2, ASt.get, aget, ASt.put, ↓reduceIte, reduceCtorEq, Nat.reduceLT, Nat.reduceEqDiff, eq_self, d1', ee, f1', f2', f3', f4', f5', f6', aRetM_n] | (with_reducible refine aIf_split (fun _ => ?_) (fun _ => ?_)) | (with_reducible refine aSel_split (fun _ => ?_) (fun _ => ?_)) | (with_reducible refine aGd_split (fun _ => ?_) (fun _ => ?_))))
      try (refine callM hR1 (by simp [ATab.get_cons]) (by simp [treeML, treeM, treeL, treeC]) ?_; (repeat' (first | simp (maxSteps := 5000000) (implicitDefEqProofs := false) only [ruA, ruB, aEv, aBin, bin2, ASt.get, aget, ASt.put, ↓reduceIte, reduceCtorEq, Nat.reduceLT, Nat.reduceEqDiff, eq_self, f3', f4', f5', f6', aRetM_n] | (with_reducible refine aIf_split (fun _ => ?_) (fun _ => ?_)) | (with_reducible refine aSel_split (fun _ => ?_) (fun _ => ?_)) | (with_reducible refine aGd_split (fun _ => ?_) (fun _ => ?_)))))
      try (refine callM hR2 (by simp [ATab.get_cons]) (by simp [treeML, treeM, treeL, treeC]) ?_; (repeat' (first | simp (maxSteps := 5000000) (implicitDefEqProofs := false) only [ruA, ruB, aEv, aBin, bin2, ASt.get, aget, ASt.put, ↓reduceIte, reduceCtorEq, Nat.reduceLT, Nat.reduceEqDiff, eq_self, f5', f6', aRetM_n] | (with_reducible refine aIf_split (fun _ => ?_) (fun _ => ?_)) | (with_reducible refine aSel_split (fun _ => ?_) (fun _ => ?_)) | (with_reducible refine aGd_split (fun _ => ?_) (fun _ => ?_)))))
      try (refine callM hR3 (by simp [ATab.get_cons]) (by simp [treeML, treeM, treeL, treeC]) ?_; (repeat' (first | simp (maxSteps := 5000000) (implicitDefEqProofs := false) only [ruA, ruB, ASt.get, aget, ASt.put, ↓reduceIte, reduceCtorEq, Nat.reduceLT, eq_self, aRetM_n] | (with_reducible refine aIf_split (fun _ => ?_) (fun _ => ?_)) | (with_reducible refine aSel_split (fun _ => ?_) (fun _ => ?_)) | (with_reducible refine aGd_split (fun _ => ?_) (fun _ => ?_)))))
    all_goals trace_state
end
end Go.Proofs.YtodbhccfajgekaaGreatDoor
