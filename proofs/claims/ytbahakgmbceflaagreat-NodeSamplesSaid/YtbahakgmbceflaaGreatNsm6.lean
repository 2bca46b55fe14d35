/-
  Parts of the proof: SoA, D1, C3, C4, C5, D5, D6, D7, D8, E4, F3, NumSpec, NumSortA, ZSortA.
-/
import Derived.Test.YtbahakgmbceflaaGreatNsm5
import Derived.WalkKit
import Derived.WalkLawsBesides
import Derived.Test.YtbahakgmbceflaaGreatSortShelf
import Derived.Deep.LoopGhost
import Derived.Deep.Draws
import Derived.Deep.QuietTactic
import Derived.OpenShut
import Derived.ProofKit
set_option linter.unusedVariables false
set_option linter.unusedSimpArgs false
namespace Go.Proofs.YtbahakgmbceflaaGreat
section
open Go.RowKit
def encP (x : Pt) : List AV := [eI x.n, eI x.a, eI x.c]
theorem sw_map {l : List Pt} {i j : Nat} (hi : i < l.length) (hj : j < l.length) : ((l.map encP).set i [eI l[j].n, eI l[j].a, eI l[j].c]).set j [eI l[i].n, eI l[i].a, eI l[i].c] = (sw l i j).map encP := by
  unfold sw
  rw [List.map_set, List.map_set, List.getD_eq_getElem?_getD, List.getD_eq_getElem?_getD, List.getElem?_eq_getElem hi, List.getElem?_eq_getElem hj]
  rfl
theorem drop3 {m : List Pt} {i j : Nat} {a b c : AV} : List.drop 3 (((m.map encP).set i [a, b, c])[j]?.getD []) = [] := by
  cases h : ((m.map encP).set i [a, b, c])[j]? with
  | none => rfl
  | some row =>
    have hm := List.mem_of_getElem? h
    rcases List.mem_or_eq_of_mem_set hm with h1 | h1
    · obtain ⟨x, _, rfl⟩ := List.mem_map.1 h1
      rfl
    · rw [h1]
      rfl
set_option maxRecDepth 100000 in
set_option maxHeartbeats 8000000 in
theorem swapRange_M (l : List Pt) (p q n : Nat) (g : FuncId) (hpq : p + n ≤ q) (hq : q + n ≤ l.length) (hl : l.length ≤ 1000000) : AMut Tryz.prog 146 141 3 (l.map encP) [eI (p : Int), eI (q : Int), eI (n : Int), .fn g []] ((swp l p q n).map encP) := by
  refine amut_of_code mixedT Tryz.func146 rfl (by decide) Tryz.ntmps146 Tryz.results146 rfl (by kernel_rfl) ?_
  (repeat' (first | simp (maxSteps := 5000000) (implicitDefEqProofs := false) only [ruA, ruB, aEv, ASt.put, envOf, Nat.reduceAdd] | (with_reducible refine aIf_split (fun _ => ?_) (fun _ => ?_)) | (with_reducible refine aSel_split (fun _ => ?_) (fun _ => ?_)) | (with_reducible refine aGd_split (fun _ => ?_) (fun _ => ?_))))
  refine aLoop_of (fun st => ∃ k : Nat, k ≤ n ∧ st = ⟨38, [(0, .osl 0), (1, eI (p : Int)), (2, eI (q : Int)), (3, eI (n : Int)), (10, eI (k : Int))], [(0, some (.row 141 3 ((swp l p q k).map encP)))], 1⟩) (fun st => n - slotN st 10) ⟨_, (weak_cut1 (by (first | ((simp only [envIn, tabIn, envLt, tabLt, AObj.lt, AV.lt, ruW, ASt.get, aget, ↓reduceIte, reduceCtorEq, Nat.reduceLT, Nat.reduceEqDiff, eq_self, swp]) <;> (repeat' apply And.intro) <;> first | (rw [wrapK (by omega)]; done) | (simp; done) | omega) | fail))), 0, Nat.zero_le _, rfl⟩ ?_
  rintro _ ⟨k, hk, rfl⟩
  have hlen := swp_len l p q k
  by_cases hlt : k < n
  · have e1 : IntKind.i64.wrap ((p : Int) + (k : Int)) = ((p + k : Nat) : Int) := by rw [wrap_in (by omega) (by omega)]; omega
    have e2 : IntKind.i64.wrap ((q : Int) + (k : Int)) = ((q + k : Nat) : Int) := by rw [wrap_in (by omega) (by omega)]; omega
    have hst : swp l p q (k + 1) = sw (swp l p q k) (p + k) (q + k) := rfl
    obtain ⟨m, hm⟩ : ∃ m, swp l p q k = m := ⟨_, rfl⟩
    rw [hm] at hlen hst ⊢
    have hi : p + k < m.length := by omega
    have hj : q + k < m.length := by omega
    have hsw := sw_map hi hj
    rw [← hst] at hsw
    (repeat' (first | simp (maxSteps := 5000000) (implicitDefEqProofs := false) only [ruA, ruB, aEv, aBin, bin2, ASt.get, aget, ASt.put, ↓reduceIte, Nat.reduceLT, Nat.reduceEqDiff, eq_self, hlt] | (with_reducible refine aIf_split (fun _ => ?_) (fun _ => ?_)) | (with_reducible refine aSel_split (fun _ => ?_) (fun _ => ?_)) | (with_reducible refine aGd_split (fun _ => ?_) (fun _ => ?_))))
    refine aDraw_held [0] [0, 1, 2, 3, 4, 5, 6, 7, 8, 9, 10, 11, 12, 14, 15, 16, 17, 18] (.two 13 (.exec 19 (.take 20 (.exec 21 (.take 22 (.exec 23 .done))))) 19 (.exec 13 (.take 20 (.exec 21 (.take 22 (.exec 23 .done)))))) (by kernel_rfl) (by simp [ATab.get_cons]) ?_
    (repeat' (first | simp (maxSteps := 5000000) (implicitDefEqProofs := false) only [ruA, ruB, aEv, aTake, aLoad, aIndex, aBin, bin2, ASt.get, aget, ASt.put, aCells, oneC, oneCL, treeC, treeL, Value.oneCell', ↓reduceIte, reduceCtorEq, Nat.reduceLT, Nat.reduceEqDiff, Nat.reduceAdd, Nat.reduceLeDiff, eq_self, aExecS, aStoreB, aTakes, aTakeE, aMay, tyE_138, tyA_141, tyS_141, row_at, e1, e2, hi, hj, encP, drop3, List.length_set] | (with_reducible refine aIf_split (fun _ => ?_) (fun _ => ?_)) | (with_reducible refine aSel_split (fun _ => ?_) (fun _ => ?_)) | (with_reducible refine aGd_split (fun _ => ?_) (fun _ => ?_)) | (with_reducible refine aDraw_quiet (by kernel_rfl) ?_) | (with_reducible apply And.intro)))
    all_goals first
      | rfl
      | omega
      | exact roundI (weak_cut1 (by (first | ((simp only [envIn, tabIn, envLt, tabLt, AObj.lt, AV.lt, ruW, ASt.get, aget, ↓reduceIte, reduceCtorEq, Nat.reduceLT, Nat.reduceEqDiff, eq_self, hsw]) <;> (repeat' apply And.intro) <;> first | (rw [wrapK (by omega)]; done) | (simp; done) | omega) | fail))) ⟨k + 1, by omega, rfl⟩ (by simp only [slotN, ruW, ASt.get, aget, ↓reduceIte, Nat.reduceLT, Nat.reduceEqDiff, eq_self]; omega)
      | trace_state
  · obtain rfl : k = n := by omega
    (repeat' (first | simp (maxSteps := 5000000) (implicitDefEqProofs := false) only [ruA, ruB, aEv, aBin, bin2, ASt.get, aget, ASt.put, ↓reduceIte, reduceCtorEq, Nat.reduceLT, Nat.reduceEqDiff, eq_self, hlt, aRetM_n] | (with_reducible refine aIf_split (fun _ => ?_) (fun _ => ?_)) | (with_reducible refine aSel_split (fun _ => ?_) (fun _ => ?_)) | (with_reducible refine aGd_split (fun _ => ?_) (fun _ => ?_)) | (with_reducible refine aDraw_quiet (by kernel_rfl) ?_)))
    all_goals trace_state
set_option maxRecDepth 100000 in
set_option maxHeartbeats 8000000 in
theorem rotate_M (pre L R post : List Pt) (g : FuncId) (a m b : Nat) (ha : a = pre.length) (hm : m = a + L.length) (hb : b = m + R.length) (hL : 0 < L.length) (hR : 0 < R.length) (hl : (pre ++ L ++ R ++ post).length ≤ 1000000) : AMut Tryz.prog 142 141 3 ((pre ++ L ++ R ++ post).map encP) [eI (a : Int), eI (m : Int), eI (b : Int), .fn g []] ((pre ++ R ++ L ++ post).map encP) := by
  have hl0 : pre.length + L.length + R.length + post.length ≤ 1000000 := by simpa [Nat.add_assoc] using hl
  have e1 : IntKind.i64.wrap ((m : Int) - (a : Int)) = ((L.length : Nat) : Int) := by rw [wrap_in (by omega) (by omega)]; omega
  have e2 : IntKind.i64.wrap ((b : Int) - (m : Int)) = ((R.length : Nat) : Int) := by rw [wrap_in (by omega) (by omega)]; omega
  refine amut_of_code mixedT Tryz.func142 rfl (by decide) Tryz.ntmps142 Tryz.results142 rfl (by kernel_rfl) ?_
  (repeat' (first | simp (maxSteps := 5000000) (implicitDefEqProofs := false) only [ruA, ruB, aEv, aBin, bin2, ASt.get, aget, ASt.put, envOf, ↓reduceIte, Nat.reduceLT, Nat.reduceEqDiff, Nat.reduceAdd, eq_self, e1, e2] | (with_reducible refine aIf_split (fun _ => ?_) (fun _ => ?_)) | (with_reducible refine aSel_split (fun _ => ?_) (fun _ => ?_)) | (with_reducible refine aGd_split (fun _ => ?_) (fun _ => ?_))))
  refine aLoop_of (fun st => ∃ (P A B Q : List Pt), 0 < A.length ∧ 0 < B.length ∧ m = P.length + A.length ∧ P.length + A.length + B.length + Q.length ≤ 1000000 ∧ P ++ B ++ A ++ Q = pre ++ R ++ L ++ post ∧ st = ⟨58, [(0, .osl 0), (2, eI (m : Int)), (4, .fn g []), (10, eI (A.length : Int)), (11, eI (B.length : Int))], [(0, some (.row 141 3 ((P ++ A ++ B ++ Q).map encP)))], 1⟩) (fun st => slotN st 10 + slotN st 11) ⟨_, (weak_cut1 (by (first | ((simp only [envIn, tabIn, envLt, tabLt, AObj.lt, AV.lt, AV.ltL, ruW, ASt.get, aget, ↓reduceIte, reduceCtorEq, Nat.reduceLT, Nat.reduceEqDiff, eq_self]) <;> (repeat' apply And.intro) <;> first | (rw [wrapK (by omega)]; done) | (simp; done) | omega) | fail))), pre, L, R, post, hL, hR, by omega, hl0, rfl, rfl⟩ ?_
  rintro _ ⟨P, A, B, Q, hA, hB, hmP, hlen, htar, rfl⟩
  have hll : (P ++ A ++ B ++ Q).length ≤ 1000000 := by simp; omega
  have e3 : IntKind.i64.wrap ((m : Int) - (A.length : Int)) = ((P.length : Nat) : Int) := by rw [wrap_in (by omega) (by omega)]; omega
  by_cases heq : A.length = B.length
  · have d1 : ((A.length : Int) != (B.length : Int)) = false := by simp [heq]
    have hsw : swp (P ++ A ++ B ++ Q) P.length m A.length = pre ++ R ++ L ++ post := by
      rw [show P ++ A ++ B ++ Q = P ++ A ++ [] ++ B ++ Q by simp, swp_all heq rfl (by simp; omega) rfl, ← htar]
      simp
    have hM := swapRange_M (P ++ A ++ B ++ Q) P.length m A.length g (by omega) (by simp; omega) hll
    rw [hsw] at hM
    (repeat' (first | simp (maxSteps := 5000000) (implicitDefEqProofs := false) only [ruA, ruB, aEv, aBin, bin2, ASt.get, aget, ASt.put, ↓reduceIte, reduceCtorEq, Nat.reduceLT, Nat.reduceEqDiff, eq_self, d1, e3] | (with_reducible refine aIf_split (fun _ => ?_) (fun _ => ?_)) | (with_reducible refine aSel_split (fun _ => ?_) (fun _ => ?_)) | (with_reducible refine aGd_split (fun _ => ?_) (fun _ => ?_))))
    refine callM hM (by simp [ATab.get_cons]) (by simp [treeML, treeM, treeL, treeC]) ?_
    (repeat' (first | simp (maxSteps := 5000000) (implicitDefEqProofs := false) only [ruA, ruB, ASt.get, aget, ASt.put, ↓reduceIte, reduceCtorEq, Nat.reduceLT, eq_self, aRetM_n] | (with_reducible refine aIf_split (fun _ => ?_) (fun _ => ?_)) | (with_reducible refine aSel_split (fun _ => ?_) (fun _ => ?_)) | (with_reducible refine aGd_split (fun _ => ?_) (fun _ => ?_)) | (with_reducible refine aDraw_quiet (by kernel_rfl) ?_)))
  · have d1 : ((A.length : Int) != (B.length : Int)) = true := by simp; omega
    by_cases hlt : B.length < A.length
    · have d2 : decide ((B.length : Int) < (A.length : Int)) = true := by simp only [decide_eq_true_eq]; omega
      have d2' : decide (B.length < A.length) = true := by simp only [decide_eq_true_eq]; omega
      have e4 : IntKind.i64.wrap ((A.length : Int) - (B.length : Int)) = ((A.length - B.length : Nat) : Int) := by rw [wrap_in (by omega) (by omega)]; omega
      obtain ⟨A1, A2, rfl, hA1⟩ : ∃ A1 A2, A = A1 ++ A2 ∧ A1.length = B.length := ⟨A.take B.length, A.drop B.length, (List.take_append_drop ..).symm, by rw [List.length_take]; omega⟩
      have hlA : (A1 ++ A2).length = A1.length + A2.length := List.length_append
      rw [hlA] at hmP hlen hA hlt d1 d2 d2' e3 e4 ⊢
      have hsw : swp (P ++ (A1 ++ A2) ++ B ++ Q) P.length m B.length = (P ++ B) ++ A2 ++ A1 ++ Q := by
        rw [show P ++ (A1 ++ A2) ++ B ++ Q = P ++ A1 ++ A2 ++ B ++ Q by simp, swp_all hA1 rfl (by simp; omega) hA1.symm]
      have hM := swapRange_M (P ++ (A1 ++ A2) ++ B ++ Q) P.length m B.length g (by omega) (by simp; omega) hll
      rw [hsw] at hM
      have e5 : A1.length + A2.length - B.length = A2.length := by omega
      rw [e5] at e4
      (repeat' (first | simp (maxSteps := 5000000) (implicitDefEqProofs := false) only [ruA, ruB, aEv, aBin, bin2, ASt.get, aget, ASt.put, ↓reduceIte, reduceCtorEq, Nat.reduceLT, Nat.reduceEqDiff, eq_self, d1, d2', e3] | (with_reducible refine aIf_split (fun _ => ?_) (fun _ => ?_)) | (with_reducible refine aSel_split (fun _ => ?_) (fun _ => ?_)) | (with_reducible refine aGd_split (fun _ => ?_) (fun _ => ?_))))
      refine callM hM (by simp [ATab.get_cons]) (by simp [treeML, treeM, treeL, treeC]) ?_
      (repeat' (first | simp (maxSteps := 5000000) (implicitDefEqProofs := false) only [ruA, ruB, aEv, aBin, bin2, ASt.get, aget, ASt.put, ↓reduceIte, Nat.reduceLT, Nat.reduceEqDiff, eq_self, e4] | (with_reducible refine aIf_split (fun _ => ?_) (fun _ => ?_)) | (with_reducible refine aSel_split (fun _ => ?_) (fun _ => ?_)) | (with_reducible refine aGd_split (fun _ => ?_) (fun _ => ?_))))
      exact roundI (weak_cut1 (by (first | ((simp only [envIn, tabIn, envLt, tabLt, AObj.lt, AV.lt, AV.ltL, ruW, ASt.get, aget, ↓reduceIte, reduceCtorEq, Nat.reduceLT, Nat.reduceEqDiff, eq_self, hA1]) <;> (repeat' apply And.intro) <;> first | (rw [wrapK (by omega)]; done) | (simp; done) | omega) | fail))) ⟨P ++ B, A2, A1, Q, by omega, by omega, by simp; omega, by simp; omega, by rw [← htar]; simp, rfl⟩ (by simp only [slotN, ruW, ASt.get, aget, ↓reduceIte, Nat.reduceLT, Nat.reduceEqDiff, eq_self]; omega)
    · have d2 : decide ((B.length : Int) < (A.length : Int)) = false := by simp only [decide_eq_false_iff_not]; omega
      have d2' : decide (B.length < A.length) = false := by simp only [decide_eq_false_iff_not]; omega
      obtain ⟨B1, B2, rfl, hB2⟩ : ∃ B1 B2, B = B1 ++ B2 ∧ B2.length = A.length := ⟨B.take (B.length - A.length), B.drop (B.length - A.length), (List.take_append_drop ..).symm, by rw [List.length_drop]; omega⟩
      have hlB : (B1 ++ B2).length = B1.length + B2.length := List.length_append
      rw [hlB] at hlen hB hlt d1 d2 d2' ⊢
      have e4 : IntKind.i64.wrap (((B1.length + B2.length : Nat) : Int) - (A.length : Int)) = ((B1.length : Nat) : Int) := by rw [wrap_in (by omega) (by omega)]; omega
      have e5 : IntKind.i64.wrap (IntKind.i64.wrap ((m : Int) + ((B1.length + B2.length : Nat) : Int)) - (A.length : Int)) = ((m + B1.length : Nat) : Int) := by rw [wrap_in (x := (m : Int) + _) (by omega) (by omega), wrap_in (by omega) (by omega)]; omega
      have hsw : swp (P ++ A ++ (B1 ++ B2) ++ Q) P.length (m + B1.length) A.length = P ++ B2 ++ B1 ++ (A ++ Q) := by
        rw [show P ++ A ++ (B1 ++ B2) ++ Q = P ++ A ++ B1 ++ B2 ++ Q by simp, swp_all hB2.symm rfl (by simp; omega) rfl]
        simp
      have hM := swapRange_M (P ++ A ++ (B1 ++ B2) ++ Q) P.length (m + B1.length) A.length g (by omega) (by simp; omega) hll
      rw [hsw] at hM
      (repeat' (first | simp (maxSteps := 5000000) (implicitDefEqProofs := false) only [ruA, ruB, aEv, aBin, bin2, ASt.get, aget, ASt.put, ↓reduceIte, reduceCtorEq, Nat.reduceLT, Nat.reduceEqDiff, eq_self, d1, d2', e3, e5] | (with_reducible refine aIf_split (fun _ => ?_) (fun _ => ?_)) | (with_reducible refine aSel_split (fun _ => ?_) (fun _ => ?_)) | (with_reducible refine aGd_split (fun _ => ?_) (fun _ => ?_))))
      refine callM hM (by simp [ATab.get_cons]) (by simp [treeML, treeM, treeL, treeC]) ?_
      (repeat' (first | simp (maxSteps := 5000000) (implicitDefEqProofs := false) only [ruA, ruB, aEv, aBin, bin2, ASt.get, aget, ASt.put, ↓reduceIte, Nat.reduceLT, Nat.reduceEqDiff, eq_self, e4] | (with_reducible refine aIf_split (fun _ => ?_) (fun _ => ?_)) | (with_reducible refine aSel_split (fun _ => ?_) (fun _ => ?_)) | (with_reducible refine aGd_split (fun _ => ?_) (fun _ => ?_))))
      exact roundI (weak_cut1 (by (first | ((simp only [envIn, tabIn, envLt, tabLt, AObj.lt, AV.lt, AV.ltL, ruW, ASt.get, aget, ↓reduceIte, reduceCtorEq, Nat.reduceLT, Nat.reduceEqDiff, eq_self, hB2]) <;> (repeat' apply And.intro) <;> first | (rw [wrapK (by omega)]; done) | (simp; done) | omega) | fail))) ⟨P, B2, B1, A ++ Q, by omega, by omega, by omega, by simp; omega, by rw [← htar]; simp, rfl⟩ (by simp only [slotN, ruW, ASt.get, aget, ↓reduceIte, Nat.reduceLT, Nat.reduceEqDiff, eq_self]; omega)
end
section
open Go.RowKit
theorem two_no : ((2 : Int) = 0) = False := by simp
set_option maxRecDepth 100000 in
set_option maxHeartbeats 4000000 in
theorem hasR_A (s i : Int) (hs : ok64 s) : ADet Tryz.prog 60 [eI s, eI i] (val (.bool (hasB s i))) := by
  refine adet_of_code mixedT Tryz.func60 rfl (by decide) Tryz.ntmps60 Tryz.results60 rfl (val_ok _) ?_
  (repeat' (first | simp (maxSteps := 5000000) (implicitDefEqProofs := false) only [ruA, ruB, aEv, aBin, bin2, ASt.get, aget, ASt.put, envOf, aResL, aOne, ↓reduceIte, Nat.reduceLT, Nat.reduceEqDiff, eq_self] | (with_reducible refine aIf_split (fun _ => ?_) (fun _ => ?_)) | (with_reducible refine aSel_split (fun _ => ?_) (fun _ => ?_)) | (with_reducible refine aGd_split (fun _ => ?_) (fun _ => ?_))))
  · rename_i h
    simp at h
    simp [hasB]
    omega
  · rename_i h1 h2
    simp at h1 h2
    simp [hasB]
    omega
  · rename_i h1 h2
    simp at h1 h2
    obtain ⟨q, rfl⟩ : ∃ q : Nat, i = (q : Int) := ⟨i.toNat, by omega⟩
    have e0 : s / 2 ^ 0 = s := by simp
    refine aLoop_of (fun st => ∃ k : Nat, k ≤ q ∧ st = ⟨31, [(0, eI (s / 2 ^ k)), (1, eI (q : Int)), (5, eI (k : Int))], [], 0⟩) (fun st => q - slotN st 5) ⟨_, (weak_cut1 (by (first | ((simp only [envIn, tabIn, envLt, tabLt, AV.lt, ruW, ASt.get, aget, ↓reduceIte, reduceCtorEq, Nat.reduceLT, Nat.reduceEqDiff, eq_self, e0]) <;> (repeat' apply And.intro) <;> first | (rw [wrapK (by omega)]; done) | (simp; done) | omega) | fail))), 0, Nat.zero_le _, rfl⟩ ?_
    rintro _ ⟨k, hk, rfl⟩
    have hp : (1 : Int) ≤ 2 ^ k := Int.pow_pos (by omega)
    have hd0 : -9223372036854775808 ≤ s / 2 ^ k := by
      refine Int.le_ediv_of_mul_le (by omega) ?_
      have := hs.1
      generalize (2 : Int) ^ k = p at *
      omega
    have hd1 : s / 2 ^ k ≤ 9223372036854775807 := by
      by_cases h : s < 0
      · have := Int.ediv_neg_of_neg_of_pos h (by omega : (0 : Int) < 2 ^ k)
        omega
      · exact Int.le_trans (Int.ediv_le_self _ (by omega)) hs.2
    have ed : s / 2 ^ (k + 1) = s / 2 ^ k / 2 := by
      rw [Int.pow_succ, Int.ediv_ediv_of_nonneg (Int.le_of_lt (Int.pow_pos (by omega)))]
    generalize hx : s / 2 ^ k = x at *
    by_cases hxn : x % 2 = 1 ∧ x < 0
    · have et : x.tmod 2 = -1 := by
        have h3 : x.tmod 2 = -((-x) % 2) := by
          rw [← Int.tmod_eq_emod_of_nonneg (by omega), Int.neg_tmod]
          omega
        omega
      have en : decide ((-1 : Int) < 0) = true := by decide
      have em : IntKind.i64.wrap (0 - (-1)) = 1 := by decide
      have ew : IntKind.i64.wrap (x - 1) = x - 1 := wrap_in (by omega) (by omega)
      have eq : (x - 1).tdiv 2 = x / 2 := by
        have h3 : (2 : Int) ∣ x - 1 := ⟨x / 2, by omega⟩
        rw [Int.tdiv_eq_ediv_of_dvd h3]
        omega
      by_cases hlt : k < q
      · (repeat' (first | simp (maxSteps := 5000000) (implicitDefEqProofs := false) only [ruA, ruB, aEv, aBin, bin2, aUn, un1, ASt.get, aget, ASt.put, ↓reduceIte, reduceCtorEq, Nat.reduceLT, Nat.reduceEqDiff, eq_self, hlt, two_no, et, en, em, ew, eq] | (with_reducible refine aIf_split (fun _ => ?_) (fun _ => ?_)) | (with_reducible refine aSel_split (fun _ => ?_) (fun _ => ?_)) | (with_reducible refine aGd_split (fun _ => ?_) (fun _ => ?_))))
        have ew2 : IntKind.i64.wrap (x / 2) = x / 2 := wrap_in (by omega) (by omega)
        exact roundI (weak_cut1 (by (first | ((simp only [envIn, tabIn, envLt, tabLt, AV.lt, ruW, ASt.get, aget, ↓reduceIte, reduceCtorEq, Nat.reduceLT, Nat.reduceEqDiff, eq_self, ed, ew2]) <;> (repeat' apply And.intro) <;> first | (rw [wrapK (by omega)]; done) | (simp; done) | omega) | fail))) ⟨k + 1, by omega, rfl⟩ (by simp only [slotN, ruW, ASt.get, aget, ↓reduceIte, Nat.reduceLT, Nat.reduceEqDiff, eq_self]; omega)
      · obtain rfl : k = q := by omega
        (repeat' (first | simp (maxSteps := 5000000) (implicitDefEqProofs := false) only [ruA, ruB, aEv, aBin, bin2, ASt.get, aget, ASt.put, aResL, aOne, ↓reduceIte, reduceCtorEq, Nat.reduceLT, Nat.reduceEqDiff, eq_self, hlt, two_no, et] | (with_reducible refine aIf_split (fun _ => ?_) (fun _ => ?_)) | (with_reducible refine aSel_split (fun _ => ?_) (fun _ => ?_)) | (with_reducible refine aGd_split (fun _ => ?_) (fun _ => ?_))))
        have hk31 : (k : Int) < 31 := by omega
        simp [hasB, hx, hk31, hxn.1]
    have et : x.tmod 2 = x % 2 := by
      by_cases h : x < 0
      · have h0 : x % 2 = 0 := by omega
        rw [h0]
        exact Int.tmod_eq_zero_of_dvd ⟨x / 2, by omega⟩
      · exact Int.tmod_eq_emod_of_nonneg (by omega)
    have en : decide (x % 2 < 0) = false := by simp; omega
    have ew : IntKind.i64.wrap (x - x % 2) = x - x % 2 := wrap_in (by omega) (by omega)
    have eq : (x - x % 2).tdiv 2 = x / 2 := by
      have h3 : (2 : Int) ∣ x - x % 2 := ⟨x / 2, by omega⟩
      rw [Int.tdiv_eq_ediv_of_dvd h3]
      omega
    by_cases hlt : k < q
    · (repeat' (first | simp (maxSteps := 5000000) (implicitDefEqProofs := false) only [ruA, ruB, aEv, aBin, bin2, ASt.get, aget, ASt.put, ↓reduceIte, reduceCtorEq, Nat.reduceLT, Nat.reduceEqDiff, eq_self, hlt, two_no, et, en, ew, eq] | (with_reducible refine aIf_split (fun _ => ?_) (fun _ => ?_)) | (with_reducible refine aSel_split (fun _ => ?_) (fun _ => ?_)) | (with_reducible refine aGd_split (fun _ => ?_) (fun _ => ?_))))
      have ew2 : IntKind.i64.wrap (x / 2) = x / 2 := wrap_in (by omega) (by omega)
      exact roundI (weak_cut1 (by (first | ((simp only [envIn, tabIn, envLt, tabLt, AV.lt, ruW, ASt.get, aget, ↓reduceIte, reduceCtorEq, Nat.reduceLT, Nat.reduceEqDiff, eq_self, ed, ew2]) <;> (repeat' apply And.intro) <;> first | (rw [wrapK (by omega)]; done) | (simp; done) | omega) | fail))) ⟨k + 1, by omega, rfl⟩ (by simp only [slotN, ruW, ASt.get, aget, ↓reduceIte, Nat.reduceLT, Nat.reduceEqDiff, eq_self]; omega)
    · obtain rfl : k = q := by omega
      (repeat' (first | simp (maxSteps := 5000000) (implicitDefEqProofs := false) only [ruA, ruB, aEv, aBin, bin2, ASt.get, aget, ASt.put, aResL, aOne, ↓reduceIte, reduceCtorEq, Nat.reduceLT, Nat.reduceEqDiff, eq_self, hlt, two_no, et] | (with_reducible refine aIf_split (fun _ => ?_) (fun _ => ?_)) | (with_reducible refine aSel_split (fun _ => ?_) (fun _ => ?_)) | (with_reducible refine aGd_split (fun _ => ?_) (fun _ => ?_))))
      have hk31 : (k : Int) < 31 := by omega
      simp [hasB, hx, hk31]
      rcases Int.emod_two_eq x with h | h <;> simp [h]
def bitsN (f : Nat → Bool) : Nat → Nat
  | 0 => 0
  | k + 1 => bitsN f k + if f k = true then 2 ^ k else 0
theorem bitsN_lt (f : Nat → Bool) : ∀ k, bitsN f k < 2 ^ k
  | 0 => by simp [bitsN]
  | k + 1 => by
    have := bitsN_lt f k
    unfold bitsN
    rw [Nat.pow_succ]
    split <;> omega
theorem bitsN_bit (f : Nat → Bool) : ∀ k j, (bitsN f k).testBit j = (decide (j < k) && f j)
  | 0, j => by simp [bitsN]
  | k + 1, j => by
    have hl := bitsN_lt f k
    unfold bitsN
    split
    · rename_i hf
      rw [Nat.add_comm]
      rcases Nat.lt_trichotomy j k with h | h | h
      · rw [Nat.testBit_two_pow_add_gt h, bitsN_bit f k j]
        simp [h, show j < k + 1 by omega]
      · subst h
        rw [Nat.testBit_two_pow_add_eq, bitsN_bit f j j]
        simp [hf]
      · rw [Nat.testBit_lt_two_pow, Eq.comm]
        · simp
          omega
        · have : 2 ^ (k + 1) ≤ 2 ^ j := Nat.pow_le_pow_right (by omega) h
          rw [Nat.pow_succ] at this
          omega
    · rename_i hf
      rw [Nat.add_zero, bitsN_bit f k j]
      rcases Nat.lt_trichotomy j k with h | h | h
      · simp [h, show j < k + 1 by omega]
      · subst h
        simp [hf]
      · simp [show ¬ j < k by omega, show ¬ j < k + 1 by omega]
theorem bitsN_has (f : Nat → Bool) (j : Nat) (hj : j < 31) : hasB (bitsN f 31 : Nat) (j : Int) = f j := by
  rw [hasB_low _ j hj, low_of _ (bitsN_lt f 31), bitsN_bit]
  simp [hj]
theorem set_ext {a b : Int} (ha : 0 ≤ a ∧ a < 2147483648) (hb : 0 ≤ b ∧ b < 2147483648) (h : ∀ j : Nat, j < 31 → hasB a j = hasB b j) : a = b := by
  have e1 : ((low a : Nat) : Int) = a := by unfold low; omega
  have e2 : ((low b : Nat) : Int) = b := by unfold low; omega
  rw [← e1, ← e2]
  congr 1
  apply Nat.eq_of_testBit_eq
  intro j
  by_cases hj : j < 31
  · rw [← hasB_low a j hj, ← hasB_low b j hj]
    exact h j hj
  · rw [Nat.testBit_lt_two_pow (Nat.lt_of_lt_of_le (low_lt a) (Nat.pow_le_pow_right (by omega) (by omega))), Nat.testBit_lt_two_pow (Nat.lt_of_lt_of_le (low_lt b) (Nat.pow_le_pow_right (by omega) (by omega)))]
abbrev sB (l : List Bool) : AV := .sl 1 (l.map fun b => [eB b])
def sumF (l : List Bool) (k : Nat) : Int := (bitsN (fun i => l.getD i false) k : Nat)
def powF (k : Nat) : Int := (2 ^ k : Nat)
theorem powF_succ {k : Nat} (hk : k ≤ 31) : IntKind.i64.wrap (powF k * 2) = powF (k + 1) := by
  have h2 : 2 ^ k ≤ 2 ^ 31 := Nat.pow_le_pow_right (by omega) hk
  unfold powF
  rw [Nat.pow_succ]
  generalize 2 ^ k = p at *
  rw [wrap_in (by omega) (by omega)]
  simp
theorem sumF_yes {l : List Bool} {k : Nat} (hk : k ≤ 31) (h : l.getD k false = true) : IntKind.i64.wrap (sumF l k + powF k) = sumF l (k + 1) := by
  have h2 : 2 ^ k ≤ 2 ^ 31 := Nat.pow_le_pow_right (by omega) hk
  have h1 := bitsN_lt (fun i => l.getD i false) k
  unfold sumF powF
  rw [bitsN, if_pos h]
  generalize bitsN (fun i => l.getD i false) k = b at *
  generalize 2 ^ k = p at *
  rw [wrap_in (by omega) (by omega)]
  simp
theorem sumF_no {l : List Bool} {k : Nat} (h : l.getD k false = false) : sumF l k = sumF l (k + 1) := by
  unfold sumF
  rw [bitsN, if_neg (by rw [h]; simp)]
  rfl
set_option maxRecDepth 100000 in
theorem sum_A (l : List Bool) (hl : l.length ≤ 31) : ADet Tryz.prog 84 [sB l] (val (.int .i64 (sumF l l.length))) := by
  refine adet_of_code mixedT Tryz.func84 rfl (by decide) Tryz.ntmps84 Tryz.results84 rfl (val_ok _) ?_
  (repeat' (first | simp (maxSteps := 5000000) (implicitDefEqProofs := false) only [ruA, aEv, ASt.put, envOf] | (with_reducible refine aIf_split (fun _ => ?_) (fun _ => ?_)) | (with_reducible refine aSel_split (fun _ => ?_) (fun _ => ?_)) | (with_reducible refine aGd_split (fun _ => ?_) (fun _ => ?_))))
  have e0 : sumF l 0 = 0 := rfl
  have e1 : powF 0 = 1 := rfl
  refine aLoop_of (fun st => ∃ k : Nat, k ≤ l.length ∧ st = ⟨22, [(0, sB l), (3, eI (sumF l k)), (4, eI (powF k)), (5, eI (k : Int))], [], 0⟩) (fun st => l.length - slotN st 5) ⟨_, (weak_cut1 (by (first | ((simp only [envIn, tabIn, envLt, tabLt, AV.lt, ruW, ASt.get, aget, ↓reduceIte, reduceCtorEq, Nat.reduceLT, Nat.reduceEqDiff, eq_self, e0, e1]) <;> (repeat' apply And.intro) <;> first | (rw [wrapK (by omega)]; done) | (simp; done) | omega) | fail))), 0, Nat.zero_le _, rfl⟩ ?_
  rintro _ ⟨k, hk, rfl⟩
  by_cases hlt : k < l.length
  · have ep := powF_succ (k := k) (by omega)
    have eg : l.getD k false = l[k] := by simp [hlt]
    (repeat' (first | simp (maxSteps := 5000000) (implicitDefEqProofs := false) only [ruA, ruB, aEv, aTake, aLoad, aIndex, aLen, aBin, bin2, ASt.get, aget, ASt.put, ↓reduceIte, reduceCtorEq, Nat.reduceLT, Nat.reduceEqDiff, eq_self, ne_eq, tyE_94, tyA_4, tyS_4, row_at, hlt] | (with_reducible refine aIf_split (fun _ => ?_) (fun _ => ?_)) | (with_reducible refine aSel_split (fun _ => ?_) (fun _ => ?_)) | (with_reducible refine aGd_split (fun _ => ?_) (fun _ => ?_))))
    · rename_i hb
      have ew := sumF_yes (l := l) (k := k) (by omega) (by rw [eg]; exact hb)
      exact roundI (weak_cut1 (by (first | ((simp only [envIn, tabIn, envLt, tabLt, AV.lt, ruW, ASt.get, aget, ↓reduceIte, reduceCtorEq, Nat.reduceLT, Nat.reduceEqDiff, eq_self, ew, ep]) <;> (repeat' apply And.intro) <;> first | (rw [wrapK (by omega)]; done) | (simp; done) | omega) | fail))) ⟨k + 1, by omega, rfl⟩ (by simp only [slotN, ruW, ASt.get, aget, ↓reduceIte, Nat.reduceLT, Nat.reduceEqDiff, eq_self]; omega)
    · rename_i hb
      have ew := sumF_no (l := l) (k := k) (by rw [eg]; exact hb)
      rw [ew]
      exact roundI (weak_cut1 (by (first | ((simp only [envIn, tabIn, envLt, tabLt, AV.lt, ruW, ASt.get, aget, ↓reduceIte, reduceCtorEq, Nat.reduceLT, Nat.reduceEqDiff, eq_self, ep]) <;> (repeat' apply And.intro) <;> first | (rw [wrapK (by omega)]; done) | (simp; done) | omega) | fail))) ⟨k + 1, by omega, rfl⟩ (by simp only [slotN, ruW, ASt.get, aget, ↓reduceIte, Nat.reduceLT, Nat.reduceEqDiff, eq_self]; omega)
  · obtain rfl : k = l.length := by omega
    (repeat' (first | simp (maxSteps := 5000000) (implicitDefEqProofs := false) only [ruA, ruB, aEv, aLen, aBin, bin2, ASt.get, aget, ASt.put, aResL, aOne, ↓reduceIte, reduceCtorEq, Nat.reduceLT, Nat.reduceEqDiff, eq_self, ne_eq, tyE_94, hlt] | (with_reducible refine aIf_split (fun _ => ?_) (fun _ => ?_)) | (with_reducible refine aSel_split (fun _ => ?_) (fun _ => ?_)) | (with_reducible refine aGd_split (fun _ => ?_) (fun _ => ?_))))
def inL (s : Int) : List Bool := (List.range 31).map fun (i : Nat) => hasB s (i : Int)
set_option maxRecDepth 100000 in
theorem inR_A (s : Int) (hs : ok64 s) : ADet Tryz.prog 83 [eI s] (own 4 1 ((inL s).map fun b => [eB b])) := by
  refine adet_of_code mixedT Tryz.func83 rfl (by decide) Tryz.ntmps83 Tryz.results83 rfl (own_ok _ _ _) ?_
  (repeat' (first | simp (maxSteps := 5000000) (implicitDefEqProofs := false) only [ruA, aEv, ASt.put, envOf] | (with_reducible refine aIf_split (fun _ => ?_) (fun _ => ?_)) | (with_reducible refine aSel_split (fun _ => ?_) (fun _ => ?_)) | (with_reducible refine aGd_split (fun _ => ?_) (fun _ => ?_))))
  have hil : (inL s).length = 31 := by simp [inL]
  refine aLoop_of (fun st => ∃ k : Nat, k ≤ 31 ∧ st = ⟨16, [(0, eI s), (3, .osl 0), (4, eI (k : Int))], [(0, some (.row 4 1 (((inL s).take k).map fun b => [eB b])))], 1⟩) (fun st => 31 - slotN st 4) ⟨_, ((weak_nil 3 4 1 (by simp only [ASt.get, aget, ↓reduceIte, Nat.reduceLT, Nat.reduceEqDiff, eq_self])).trans (weak_ren1 [0] ⟨(by decide), (by (first | ((simp only [envInR, tabInR, envLt, tabLt, AObj.lt, AV.lt, AV.ren, AObj.ren, List.getD_cons_zero, List.length_cons, List.length_nil, ruW, ASt.get, aget, ↓reduceIte, reduceCtorEq, Nat.reduceLT, Nat.reduceAdd, eq_self, List.take_zero]) <;> (repeat' apply And.intro) <;> first | (rw [wrapK (by omega)]; done) | (simp; done) | omega) | fail))⟩)), 0, Nat.zero_le _, rfl⟩ ?_
  rintro _ ⟨k, hk, rfl⟩
  by_cases hlt : k < 31
  · have et : ((inL s).take (k + 1)).map (fun b => [eB b]) = ((inL s).take k).map (fun b => [eB b]) ++ [[eB (hasB s (k : Int))]] := by
      rw [take_snoc (fun b => [eB b]) (inL s) (show k < (inL s).length by omega)]
      simp [inL]
    have hkl : ((inL s).take k).length = k := by rw [List.length_take]; omega
    have e1 : decide ((k : Int) < 31) = true := by simp; omega
    (repeat' (first | simp (maxSteps := 5000000) (implicitDefEqProofs := false) only [ruA, ruB, aEv, aBin, bin2, ASt.get, aget, ASt.put, ↓reduceIte, reduceCtorEq, Nat.reduceLT, Nat.reduceEqDiff, eq_self, e1] | (with_reducible refine aIf_split (fun _ => ?_) (fun _ => ?_)) | (with_reducible refine aSel_split (fun _ => ?_) (fun _ => ?_)) | (with_reducible refine aGd_split (fun _ => ?_) (fun _ => ?_))))
    refine callV (hasR_A s k hs) ?_
    (repeat' (first | simp (maxSteps := 5000000) (implicitDefEqProofs := false) only [ruA, ruB, aEv, aBin, bin2, ASt.get, aget, ASt.put, aAppend, aBuildSlice, aCells, oneC, oneCL, treeC, treeL, aLit, aDst, aSrc, appTab, Value.cells, Value.oneCell', ↓reduceIte, reduceCtorEq, Nat.reduceLT, Nat.reduceEqDiff, Nat.reduceAdd, Nat.reduceMul, Nat.reduceLeDiff, eq_self, aBuildSlice1, frzs, ownIds, tyR_94] | (with_reducible refine aIf_split (fun _ => ?_) (fun _ => ?_)) | (with_reducible refine aSel_split (fun _ => ?_) (fun _ => ?_)) | (with_reducible refine aGd_split (fun _ => ?_) (fun _ => ?_))))
    refine ⟨rfl, by omega, roundI (weak_ren1 [2] ⟨(by decide), (by (first | ((simp only [envInR, tabInR, envLt, tabLt, AObj.lt, AV.lt, AV.ren, AObj.ren, List.getD_cons_zero, List.length_cons, List.length_nil, ruW, ASt.get, aget, ↓reduceIte, reduceCtorEq, Nat.reduceLT, Nat.reduceEqDiff, Nat.reduceAdd, eq_self, et]) <;> (repeat' apply And.intro) <;> first | (rw [wrapK (by omega)]; done) | (simp; done) | omega) | fail))⟩) ⟨k + 1, by omega, rfl⟩ (by simp only [slotN, ruW, ASt.get, aget, ↓reduceIte, Nat.reduceLT, eq_self]; omega)⟩
  · obtain rfl : k = 31 := by omega
    have e1 : decide (((31 : Nat) : Int) < 31) = false := by decide
    (repeat' (first | simp (maxSteps := 5000000) (implicitDefEqProofs := false) only [ruA, ruB, aEv, aBin, bin2, ASt.get, aget, ASt.put, aResL, aOne, ↓reduceIte, Nat.reduceLT, Nat.reduceEqDiff, eq_self, e1] | (with_reducible refine aIf_split (fun _ => ?_) (fun _ => ?_)) | (with_reducible refine aSel_split (fun _ => ?_) (fun _ => ?_)) | (with_reducible refine aGd_split (fun _ => ?_) (fun _ => ?_))))
    refine aGives_own ?_
    simp [ATab.get_cons, List.take_of_length_le (Nat.le_of_eq hil)]
theorem put_set (s : Int) (i : Int) (b : Bool) (h0 : 0 ≤ i) (h1 : i < 31) : sumF ((inL s).set i.toNat b) 31 = if b = true then withB s i else withoutB s i := by
  have hr := bitsN_lt (fun j => ((inL s).set i.toNat b).getD j false) 31
  have hw : (0 : Int) ≤ (if b = true then withB s i else withoutB s i) ∧ (if b = true then withB s i else withoutB s i) < 2147483648 := by
    split
    · unfold withB
      rw [if_pos ⟨h0, h1⟩]
      have : low s ||| 2 ^ i.toNat < 2 ^ 31 := Nat.or_lt_two_pow (low_lt s) (Nat.pow_lt_pow_right (by omega) (by omega))
      omega
    · unfold withoutB
      rw [if_pos ⟨h0, h1⟩]
      have : low s ^^^ (low s &&& 2 ^ i.toNat) < 2 ^ 31 := Nat.xor_lt_two_pow (low_lt s) (Nat.lt_of_le_of_lt Nat.and_le_left (low_lt s))
      omega
  unfold sumF
  refine set_ext (by omega) hw fun j hj => ?_
  rw [bitsN_has _ j hj]
  have hlen : (inL s).length = 31 := by simp [inL]
  have hg : ((inL s).set i.toNat b).getD j false = if i.toNat = j then b else hasB s (j : Int) := by
    rw [List.getD_eq_getElem?_getD, List.getElem?_set]
    split
    · rename_i h
      rw [hlen, if_pos (by omega)]
      rfl
    · simp [inL, hj]
  rw [hg]
  have e1 : (decide (0 ≤ i ∧ i < 31)) = true := by simp [h0, h1]
  split
  · rename_i h
    have h2 : ((j : Int) == i) = true := by simp; omega
    cases b
    · simp [hasB_without, h2]
    · simp [hasB_with, e1, h2]
  · rename_i h
    have h2 : ((j : Int) == i) = false := by simp; omega
    cases b
    · simp [hasB_without, h2]
    · simp [hasB_with, h2]
set_option maxRecDepth 100000 in
theorem put_A (s i : Int) (b : Bool) (hs : ok64 s) (h0 : 0 ≤ i) (h1 : i < 31) : ADet Tryz.prog 62 [eI s, eI i, eB b] (val (.int .i64 (if b = true then withB s i else withoutB s i))) := by
  refine adet_of_code mixedT Tryz.func62 rfl (by decide) Tryz.ntmps62 Tryz.results62 rfl (val_ok _) ?_
  rw [← put_set s i b h0 h1]
  have hlen : (inL s).length = 31 := by simp [inL]
  obtain ⟨q, rfl⟩ : ∃ q : Nat, i = (q : Int) := ⟨i.toNat, by omega⟩
  have e1 : decide ((q : Int) ≤ 30) = true := by simp; omega
  have hq : q < (inL s).length := by omega
  have bools_plain : ∀ row ∈ (inL s).map (fun b => [eB b]), ∀ av ∈ row, av.plain := fun row hr av ha => by
    obtain ⟨n, _, rfl⟩ := List.mem_map.1 hr
    simp at ha
    subst ha
    trivial
  have hset : (((inL s).map fun b => [eB b]).set q [eB b]) = ((inL s).set q b).map fun b => [eB b] := by rw [List.map_set]
  (repeat' (first | simp (maxSteps := 5000000) (implicitDefEqProofs := false) only [ruA, ruB, aEv, ASt.get, aget, ASt.put, envOf, ↓reduceIte, reduceCtorEq, Nat.reduceLT, Nat.reduceAdd, eq_self] | (with_reducible refine aIf_split (fun _ => ?_) (fun _ => ?_)) | (with_reducible refine aSel_split (fun _ => ?_) (fun _ => ?_)) | (with_reducible refine aGd_split (fun _ => ?_) (fun _ => ?_))))
  refine callO (inR_A s hs) (.inr bools_plain) ?_
  (repeat' (first | simp (maxSteps := 5000000) (implicitDefEqProofs := false) only [ruA, ruB, aEv, aIndex, aBin, bin2, ASt.get, aget, ASt.put, aStore, aCells, oneC, oneCL, treeC, treeL, Value.cells, Value.oneCell', ↓reduceIte, Nat.reduceLT, Nat.reduceEqDiff, eq_self, tyE_94, tyS_4, e1] | (with_reducible refine aIf_split (fun _ => ?_) (fun _ => ?_)) | (with_reducible refine aSel_split (fun _ => ?_) (fun _ => ?_)) | (with_reducible refine aGd_split (fun _ => ?_) (fun _ => ?_))))
  have hs' := sum_A ((inL s).set q b) (by simp; omega)
  rw [List.length_set, hlen] at hs'
  refine ⟨by omega, ?_⟩
  (repeat' (first | simp (maxSteps := 5000000) (implicitDefEqProofs := false) only [ruB, row_at, hq] | (with_reducible refine aIf_split (fun _ => ?_) (fun _ => ?_)) | (with_reducible refine aSel_split (fun _ => ?_) (fun _ => ?_)) | (with_reducible refine aGd_split (fun _ => ?_) (fun _ => ?_))))
  rw [hset]
  refine callV (by exact hs') ?_
  (repeat' (first | simp (maxSteps := 5000000) (implicitDefEqProofs := false) only [ruA, aEv, ASt.get, aget, ASt.put, aResL, aOne, ↓reduceIte, Nat.reduceLT, eq_self] | (with_reducible refine aIf_split (fun _ => ?_) (fun _ => ?_)) | (with_reducible refine aSel_split (fun _ => ?_) (fun _ => ?_)) | (with_reducible refine aGd_split (fun _ => ?_) (fun _ => ?_))))
end
section
open Go.RowKit

def inS (m : Mod) (st : Int) : Bool := decide (0 ≤ st) && decide (st < (m.stages.length : Int))
def readyM (m : Mod) (opn : Int) (x : Bool × Int) (event : Int) : Bool :=
  match sentryM m x with
  | some (st, ev, _, _) => inS m st && ((ev == -1 || ev == event) && (hasB opn st == x.1) && (x.1 || aboveM m opn st))
  | none => false
def firesM (m : Mod) (s : St) (x : Bool × Int) (event : Int) : Bool := readyM m s.opn x event && (match sentryM m x with | some (_, _, cond, _) => optB (holdsO cond s) | none => false)
end
section
open Go.RowKit

def undo (l : List Ml) (st d : Int) : Nat → Int
  | 0 => d
  | k + 1 => if l[k]?.map (·.stage) = some st then withoutB (undo l st d k) (k : Int) else undo l st d k
def fireM (m : Mod) (s : St) (x : Bool × Int) : St :=
  match sentryM m x with
  | some (st, _, _, mi) =>
    if inS m st = true then
      if x.1 = true then { s with don := withB s.don mi, opn := (belowL (pars m) st ++ [st]).foldl withoutB s.opn }
      else { s with opn := withB s.opn st, don := undo m.miles st s.don m.miles.length }
    else s
  | none => s
end
section
open Go.RowKit

def turnM (m : Mod) (event : Int) (s : St) (x : Bool × Int) : St := if firesM m s x event = true then fireM m s x else s
def passM (m : Mod) (event : Int) (s : St) (k : Nat) : St := (m.order.take k).foldl (turnM m event) s
end
section
open Go.RowKit
def in31 (o : Int) : Prop := 0 ≤ o ∧ o < 2147483648
theorem in31_ok {o : Int} (h : in31 o) : ok64 o := by unfold in31 at h; unfold ok64; omega
theorem low_31 (s : Int) : in31 (low s : Int) := by
  have := low_lt s
  unfold in31
  omega
theorem withB_31 (s i : Int) : in31 (withB s i) := by
  unfold withB
  split
  · have h1 : low s ||| 2 ^ i.toNat < 2 ^ 31 := Nat.or_lt_two_pow (low_lt s) (Nat.pow_lt_pow_right (by omega) (by omega))
    unfold in31
    omega
  · exact low_31 s
def upto (q : Nat → Bool) (k : Nat) : Nat → Bool := fun i => decide (i < k) && q i
theorem bools_plain {l : List Bool} : ∀ row ∈ l.map (fun b => [eB b]), ∀ av ∈ row, av.plain := fun row hr av ha => by
  obtain ⟨n, _, rfl⟩ := List.mem_map.1 hr
  simp at ha
  subst ha
  trivial
end
section
open Go.RowKit
def allN (f : Nat → Bool) : Nat → Bool
  | 0 => true
  | n + 1 => allN f n && f n
theorem allN_iff (f : Nat → Bool) : ∀ n, allN f n = true ↔ ∀ i, i < n → f i = true
  | 0 => by simp [allN]
  | n + 1 => by
    rw [allN, Bool.and_eq_true, allN_iff f n]
    constructor
    · intro ⟨h1, h2⟩ i hi
      rcases Nat.lt_or_ge i n with h | h
      · exact h1 i h
      · obtain rfl : i = n := by omega
        exact h2
    · exact fun h => ⟨fun i hi => h i (by omega), h n (by omega)⟩
theorem allN_no {f : Nat → Bool} {k n : Nat} (hk : k < n) (h : f k = false) : allN f n = false := by
  rw [Bool.eq_false_iff]
  intro h2
  rw [(allN_iff f n).1 h2 k hk] at h
  cases h
theorem allN_step {f : Nat → Bool} {k : Nat} (h1 : allN f k = true) (h : f k = true) : allN f (k + 1) = true := by simp [allN, h1, h]
def firstI (n : Int) : Int := 2 ^ (max 0 (min n 31)).toNat - 1
theorem first_A (n : Int) : ADet Tryz.prog 90 [eI n] (val (.int .i64 (firstI n))) := by
  refine adet_of_code mixedT Tryz.func90 rfl (by decide) Tryz.ntmps90 Tryz.results90 rfl (val_ok _) ?_
  have h0 : ¬ (max 0 (min n 31) < 0) := by omega
  have h2 : (max 0 (min n 31)).toNat ≤ 31 := by omega
  have h1 : min (max 0 (min n 31)).toNat IntKind.i64.bits = (max 0 (min n 31)).toNat := by
    have : IntKind.i64.bits = 64 := rfl
    omega
  have hp : (1 : Int) ≤ 2 ^ (max 0 (min n 31)).toNat ∧ (2 : Int) ^ (max 0 (min n 31)).toNat ≤ 2147483648 := by
    have h3 : 2 ^ (max 0 (min n 31)).toNat ≤ 2 ^ 31 := Nat.pow_le_pow_right (by omega) h2
    have h4 : 1 ≤ 2 ^ (max 0 (min n 31)).toNat := Nat.one_le_two_pow
    have e : (2 : Int) ^ (max 0 (min n 31)).toNat = ((2 ^ (max 0 (min n 31)).toNat : Nat) : Int) := by simp
    rw [e]
    omega
  have w1 : IntKind.i64.wrap (1 * 2 ^ (max 0 (min n 31)).toNat) = 2 ^ (max 0 (min n 31)).toNat := by
    rw [Int.one_mul]
    exact wrap_in (by omega) (by omega)
  have w2 : IntKind.i64.wrap (2 ^ (max 0 (min n 31)).toNat - 1) = 2 ^ (max 0 (min n 31)).toNat - 1 := wrap_in (by omega) (by omega)
  unfold firstI
  (repeat' (first | simp (maxSteps := 5000000) (implicitDefEqProofs := false) only [ruA, aEv, aBin, bin2, ASt.get, aget, ASt.put, envOf, aResL, aOne, ↓reduceIte, reduceCtorEq, Nat.reduceLT, eq_self, aMM, h0, h1, w1, w2] | (with_reducible refine aIf_split (fun _ => ?_) (fun _ => ?_)) | (with_reducible refine aSel_split (fun _ => ?_) (fun _ => ?_)) | (with_reducible refine aGd_split (fun _ => ?_) (fun _ => ?_))))
def ofB (s n : Int) : Bool := decide (0 ≤ s) && decide (s ≤ firstI n)
theorem of_A (s n : Int) : ADet Tryz.prog 73 [eI s, eI n] (val (.bool (ofB s n))) := by
  refine adet_of_code mixedT Tryz.func73 rfl (by decide) Tryz.ntmps73 Tryz.results73 rfl (val_ok _) ?_
  unfold ofB
  (repeat' (first | simp (maxSteps := 5000000) (implicitDefEqProofs := false) only [ruA, ruB, aEv, aBin, bin2, ASt.get, aget, ASt.put, envOf, aResL, aOne, ↓reduceIte, reduceCtorEq, Nat.reduceLT, Nat.reduceEqDiff, eq_self] | (with_reducible refine aIf_split (fun _ => ?_) (fun _ => ?_)) | (with_reducible refine aSel_split (fun _ => ?_) (fun _ => ?_)) | (with_reducible refine aGd_split (fun _ => ?_) (fun _ => ?_)) | (with_reducible refine aDraw_quiet (by kernel_rfl) ?_) | ((with_reducible apply callV (g := 90)); exact (first_A _)) | ((with_reducible apply callD (g := 90)); exact (first_A _))))
  all_goals simp [*]
def chkAt (m : Mod) (s : St) (i : Nat) : Bool := ofB (s.did.getD i 0) m.users.length && decide (0 ≤ s.cnt.getD i 0) && decide (s.cnt.getD i 0 ≤ (m.events[i]?.map (·.times)).getD 0)
def chkS (m : Mod) (s : St) : Bool := decide (s.vals.length = m.attrs.length) && decide (s.did.length = m.events.length) && decide (s.cnt.length = m.events.length) && ofB s.opn m.stages.length && ofB s.don m.miles.length && allN (chkAt m s) m.events.length
set_option maxRecDepth 100000 in
set_option maxHeartbeats 8000000 in
theorem checkS_A (m : Mod) (s : St) (hl : m.events.length ≤ 1000000) : ADet Tryz.prog 46 [.agg (eMod m), .agg (eSt s)] (val (.bool (chkS m s))) := by
  refine adet_of_code mixedT Tryz.func46 rfl (by decide) Tryz.ntmps46 Tryz.results46 rfl (val_ok _) ?_
  (repeat' (first | simp (maxSteps := 5000000) (implicitDefEqProofs := false) only [ruA, ruB, aEv, aTake, aLoad, aField, aLen, aBin, bin2, aUn, un1, ASt.get, aget, ASt.put, aBox, aCells, oneC, oneCL, Value.oneCell', envOf, aResL, aOne, ↓reduceIte, reduceCtorEq, Nat.reduceLT, Nat.reduceEqDiff, Nat.reduceAdd, Nat.reduceLeDiff, eq_self, ne_eq, tyF_32_5, tyA_26, tyS_26, tyE_26, tyF_43_0, tyA_23, tyS_23, tyE_23, tyF_32_0, tyA_22, tyS_22, tyE_22, tyF_43_3, tyA_34, tyS_34, tyE_34, tyF_43_4, tyF_43_1, tyA_3, tyS_3, tyF_32_4, tyA_25, tyS_25, tyE_25, tyF_43_2, tyF_32_7, tyA_28, tyS_28, tyE_28] | (with_reducible refine aIf_split (fun _ => ?_) (fun _ => ?_)) | (with_reducible refine aSel_split (fun _ => ?_) (fun _ => ?_)) | (with_reducible refine aGd_split (fun _ => ?_) (fun _ => ?_)) | (with_reducible refine aDraw_quiet (by kernel_rfl) ?_) | ((with_reducible apply callV (g := 73)); exact (of_A _ _)) | ((with_reducible apply callD (g := 73)); exact (of_A _ _))))
  all_goals first
    | (symm; unfold chkS; grind)
    | skip
  rename_i h1 h2 h3 h4 h5
  have h2 : s.did.length = m.events.length := by simp at h2; omega
  have h3 : s.cnt.length = m.events.length := by simp at h3; omega
  have hall : chkS m s = allN (chkAt m s) m.events.length := by unfold chkS; grind
  rw [hall]
  refine aLoop_of (fun st => ∃ k : Nat, k ≤ m.events.length ∧ allN (chkAt m s) k = true ∧ st = ⟨87, [(2, .op 0 0 0), (3, .op 1 0 0), (51, .sl 5 (m.events.map eEv)), (52, eI (m.events.length : Int)), (53, eI (k : Int))], [(0, some (.box 32 (eMod m))), (1, some (.box 43 (eSt s)))], 2⟩) (fun st => m.events.length - slotN st 53) ⟨_, (weak_cut1 (by (first | ((simp only [envIn, tabIn, envLt, tabLt, AObj.lt, AV.lt, AV.ltL, ruW, ASt.get, aget, ↓reduceIte, reduceCtorEq, Nat.reduceLT, Nat.reduceEqDiff, eq_self]) <;> (repeat' apply And.intro) <;> first | (rw [wrapK (by omega)]; done) | (simp; done) | omega) | fail))), 0, Nat.zero_le _, rfl, rfl⟩ ?_
  rintro _ ⟨k, hk, hI, rfl⟩
  by_cases hlt : k < m.events.length
  · have hd : k < s.did.length := by omega
    have hc : k < s.cnt.length := by omega
    have eF : chkAt m s k = (ofB s.did[k] m.users.length && decide (0 ≤ s.cnt[k]) && decide (s.cnt[k] ≤ m.events[k].times)) := by simp [chkAt, hd, hc, hlt]
    (repeat' (first | simp (maxSteps := 5000000) (implicitDefEqProofs := false) only [ruA, ruB, aEv, aTake, aLoad, aField, aIndex, aLen, aBin, bin2, aUn, un1, ASt.get, aget, ASt.put, aStore, aBox, aCells, oneC, oneCL, Value.cells, Value.oneCell', aResL, aOne, ↓reduceIte, reduceCtorEq, Nat.reduceLT, Nat.reduceEqDiff, Nat.reduceAdd, Nat.reduceLeDiff, eq_self, ne_eq, dref, tyE_26, tyA_22, tyS_22, tyE_22, tyF_43_3, tyA_34, tyS_34, tyE_34, tyF_43_4, tyA_3, tyS_3, tyA_51, tyS_51, tyZ_51, tyF_32_2, tyF_51_4, row_at, hlt, hd, hc] | (with_reducible refine aIf_split (fun _ => ?_) (fun _ => ?_)) | (with_reducible refine aSel_split (fun _ => ?_) (fun _ => ?_)) | (with_reducible refine aGd_split (fun _ => ?_) (fun _ => ?_)) | (with_reducible refine aDraw_quiet (by kernel_rfl) ?_) | ((with_reducible apply callV (g := 73)); exact (of_A _ _)) | ((with_reducible apply callD (g := 73)); exact (of_A _ _))))
    all_goals first
      | (symm; refine allN_no hlt ?_; rw [eF]; grind)
      | exact roundI (weak_cut1 (by (first | ((simp only [envIn, tabIn, envLt, tabLt, AObj.lt, AV.lt, AV.ltL, ruW, ASt.get, aget, ↓reduceIte, reduceCtorEq, Nat.reduceLT, Nat.reduceEqDiff, eq_self]) <;> (repeat' apply And.intro) <;> first | (rw [wrapK (by omega)]; done) | (simp; done) | omega) | fail))) ⟨k + 1, by omega, allN_step hI (by rw [eF]; grind), rfl⟩ (by simp only [slotN, ruW, ASt.get, aget, ↓reduceIte, Nat.reduceLT, Nat.reduceEqDiff, eq_self]; omega)
  · obtain rfl : k = m.events.length := by omega
    (repeat' (first | simp (maxSteps := 5000000) (implicitDefEqProofs := false) only [ruA, ruB, aEv, aBin, bin2, ASt.get, aget, ASt.put, aResL, aOne, ↓reduceIte, Nat.reduceLT, Nat.reduceEqDiff, eq_self, hlt] | (with_reducible refine aIf_split (fun _ => ?_) (fun _ => ?_)) | (with_reducible refine aSel_split (fun _ => ?_) (fun _ => ?_)) | (with_reducible refine aGd_split (fun _ => ?_) (fun _ => ?_)) | (with_reducible refine aDraw_quiet (by kernel_rfl) ?_)))
    exact hI.symm
end
section
open Go.RowKit
section
variable {P : Program} {f : FuncId} {args : List AV}
theorem res_frz {cx : Cx} {w' : World} {L : Nat → Value} {v : Value} {R : Res} (h5 : R.Ok) (h7 : Lay cx w' R.tab L) (h8 : RVx cx w' R.tab L v R.r) (id : Nat) : (R.frz id).Ok ∧ Lay cx w' (R.frz id).tab L ∧ RVx cx w' (R.frz id).tab L v (R.frz id).r := by
  unfold Res.frz
  split
  · rename_i e' sz rows hid
    obtain ⟨h9, h10⟩ := frz_core h7 (fun k o hk => (h5.young k o hk).2) hid
    refine ⟨⟨fun k o hk => ?_, frz_lt h5.lt⟩, h9, h10 v _ h8 h5.lt⟩
    simp only [ATab.get_cons, frzTab_get] at hk
    split at hk
    · cases hk
    · cases hg : R.tab.get k with
      | none => simp [hg] at hk
      | some o' =>
        simp [hg] at hk
        subst hk
        exact ⟨(h5.young k o' hg).1, frz_obj_lt (h5.young k o' hg).2⟩
  · exact ⟨h5, h7, h8⟩
theorem res_frzs {cx : Cx} {w' : World} {L : Nat → Value} {v : Value} : ∀ (ids : List Nat) {R : Res}, R.Ok → Lay cx w' R.tab L → RVx cx w' R.tab L v R.r → (R.frzs ids).Ok ∧ Lay cx w' (R.frzs ids).tab L ∧ RVx cx w' (R.frzs ids).tab L v (R.frzs ids).r
  | [], R, h1, h2, h3 => ⟨h1, h2, h3⟩
  | id :: ids, R, h1, h2, h3 => by
    obtain ⟨h4, h5, h6⟩ := res_frz h1 h2 h3 id
    exact res_frzs ids h4 h5 h6
inductive FitsT : AV → AV → Prop
  | one {a b : AV} (h : FitsA a b) : FitsT a b
  | tup {l l' : List AV} (h : FitsAs l l') : FitsT (.tup l) (.tup l')
theorem rt_of_rv {w : World} {S : Nat → Prop} {K : Nat → Option (Nat × Value)} {x : Value} {av : AV} (h : RV w S K x av) : av.lt 0 → RT w S x av := by
  induction h with
  | tree h => exact fun _ => h
  | osl x id h => exact fun h2 => by simp [AV.lt] at h2
  | op x id i j h => exact fun h2 => by simp [AV.lt] at h2
  | agg xs cs hn hr ih =>
    intro h2
    simp only [AV.lt] at h2
    exact .agg xs cs hn fun j x av h3 h4 => ih j x av h3 h4 (ltL_iff.1 h2 av (List.mem_of_getElem? h4))
  | tup xs cs hn hr ih =>
    intro h2
    simp only [AV.lt] at h2
    exact .tup xs cs hn fun j x av h3 h4 => ih j x av h3 h4 (ltL_iff.1 h2 av (List.mem_of_getElem? h4))
  | fn f xs cs hn hr ih =>
    intro h2
    simp only [AV.lt] at h2
    exact .fn f xs cs hn fun j x av h3 h4 => ih j x av h3 h4 (ltL_iff.1 h2 av (List.mem_of_getElem? h4))
theorem RT.tup_inv {w : World} {S : Nat → Prop} {x : Value} {cs : List AV} (h : RT w S x (.tup cs)) : ∃ xs : Array Value, x = .tuple xs ∧ xs.size = cs.length ∧ ∀ (j : Nat) (x : Value) (av : AV), xs[j]? = some x → cs[j]? = some av → RT w S x av := by
  cases h with
  | tup xs _ hn hr => exact ⟨xs, rfl, hn, hr⟩
theorem FitsT.rt {w : World} {S : Nat → Prop} {v : Value} {a b : AV} (h : FitsT a b) (hr : RT w S v a) : RT w S v b := by
  cases h with
  | one h => exact h.rt hr
  | @tup l l' h =>
    obtain ⟨xs, rfl, hn, hx⟩ := hr.tup_inv
    obtain ⟨h1, h2⟩ := h.spec
    refine .tup xs l' (by omega) fun j x av h3 h4 => ?_
    have hj : j < l.length := by
      have := (List.getElem?_eq_some_iff.1 h4).1
      omega
    have h5 : l[j]? = some l[j] := List.getElem?_eq_getElem hj
    exact (h2 j _ av h5 h4).rt (hx j x _ h3 h5)
theorem tab_ok {R : Res} (h1 : tabLt R.n R.tab) (h2 : R.r.lt R.n) : R.Ok := by
  refine ⟨?_, h2⟩
  revert h1
  generalize R.tab = T
  induction T with
  | nil => exact fun _ id o h => by cases h
  | cons p T ih =>
    obtain ⟨k, ob⟩ := p
    intro h1 id o h
    rw [ATab.get_cons] at h
    cases ob with
    | none =>
      simp only [tabLt] at h1
      split at h
      · cases h
      · exact ih h1 id o h
    | some ob =>
      simp only [tabLt] at h1
      split at h
      · rename_i e
        cases h
        exact ⟨by rw [e]; exact h1.1.1, h1.1.2⟩
      · exact ih h1.2 id o h
theorem ARel.tree {Post : Res → Prop} {r' : AV} (h : ARel P f args Post) (hl : r'.lt 0) (hp : ∀ R, Post R → ∃ ids, (R.frzs ids).r.lt 0 ∧ FitsT (R.frzs ids).r r') : ADet P f args ⟨r', [], 0⟩ :=
  ⟨h.1, fun S w vs h1 h2 h3 => (h.2 S w vs h1 h2 h3).mono fun e w' ⟨v, L, R, h4, h5, h6, h7, h8⟩ => by
    obtain ⟨ids, ha, hc⟩ := hp R h4
    obtain ⟨h9, h10, h11⟩ := res_frzs ids h5 h7 h8
    have hext : Ext (Cx.mk0 S w h1) w' (R.frzs ids).tab L 0 w' [] L := ⟨fun _ _ => rfl, fun b hb => ⟨hb.1, hb.2.1, fun k o hk => (by cases hk)⟩, fun k p _ hk => by simp [Kx, ATab.get] at hk⟩
    have h12 := rt_of_rv (hext.rv h11 ha) ha
    exact ⟨v, L, ⟨r', [], 0⟩, rfl, ⟨fun id o hk => (by cases hk), hl⟩, h6, ⟨h10.below, fun id o hk => (by cases hk), fun id id' o o' g hk => (by cases hk), fun b hb => hb.elim⟩, .tree (hc.rt h12)⟩⟩
end
theorem adet_own_nil {P : Program} {f : FuncId} {args : List AV} {e : TypeId} {sz : Nat} {rows : List (List AV)} (h : ARel P f args fun R => R = own e sz rows ∨ (R = val (.slice none 0 0) ∧ rows = [])) : ADet P f args ⟨.sl sz rows, [], 0⟩ :=
  h.tree (by simp [AV.lt]) fun R hR => by
    rcases hR with rfl | ⟨rfl, rfl⟩
    · refine ⟨[0], ?_⟩
      have e : ((own e sz rows).frzs [0]).r = .sl sz rows := by simp [Res.frzs, Res.frz, own, ATab.get_cons, AV.frz]
      rw [e]
      exact ⟨trivial, .one (.one (.refl _))⟩
    · exact ⟨[], trivial, .one (.one (.nil sz))⟩
theorem clone64_A (l : List Int) (hl : l.length ≤ 1000000) : ADet Tryz.prog 77 [sI l] ⟨sI l, [], 0⟩ := by
  refine adet_own_nil (e := 2) ?_
  refine arel_of_code mixedT Tryz.func77 rfl (by decide) Tryz.ntmps77 Tryz.results77 rfl ?_
  (repeat' (first | simp (maxSteps := 5000000) (implicitDefEqProofs := false) only [ruA, aEv, aBin, ASt.get, aget, ASt.put, envOf, ↓reduceIte, reduceCtorEq, Nat.reduceLT, eq_self, aNilS, tyK_23] | (with_reducible refine aIf_split (fun _ => ?_) (fun _ => ?_)) | (with_reducible refine aSel_split (fun _ => ?_) (fun _ => ?_)) | (with_reducible refine aGd_split (fun _ => ?_) (fun _ => ?_))))
  intro c hc
  cases c with
  | true =>
    (repeat' (first | simp (maxSteps := 5000000) (implicitDefEqProofs := false) only [ruA, aEv, ASt.get, aget, ASt.put, aResL, aOne, ↓reduceIte, Nat.reduceLT, eq_self] | (with_reducible refine aIf_split (fun _ => ?_) (fun _ => ?_)) | (with_reducible refine aSel_split (fun _ => ?_) (fun _ => ?_)) | (with_reducible refine aGd_split (fun _ => ?_) (fun _ => ?_))))
    exact retV (.inr ⟨rfl, hc rfl⟩)
  | false =>
    (repeat' (first | simp (maxSteps := 5000000) (implicitDefEqProofs := false) only [ruA, ruB, aEv, ASt.get, aget, ASt.put, aAppend, aBuildSlice, aCells, aLit, aDst, aSrc, appTab, Value.cells, aResL, aOne, ↓reduceIte, reduceCtorEq, Nat.reduceLT, Nat.reduceEqDiff, Nat.reduceAdd, Nat.reduceMul, eq_self, aBuildSlice1, frzs, ownIds, tyR_23] | (with_reducible refine aIf_split (fun _ => ?_) (fun _ => ?_)) | (with_reducible refine aSel_split (fun _ => ?_) (fun _ => ?_)) | (with_reducible refine aGd_split (fun _ => ?_) (fun _ => ?_))))
    exact ⟨rfl, by omega, retO rfl (.inl rfl)⟩
def startS (m : Mod) : St := ⟨m.inits, 0, 0, List.replicate m.events.length 0, List.replicate m.events.length 0⟩
def startR (m : Mod) : Res := ⟨.agg [sI m.inits, eI 0, eI 0, .osl 0, .osl 1], [(0, some (.row 3 1 ((List.replicate m.events.length 0).map fun n => [eI n]))), (1, some (.row 3 1 ((List.replicate m.events.length 0).map fun n => [eI n])))], 2⟩
theorem startR_ok (m : Mod) : (startR m).Ok := tab_ok (by simp [startR, tabLt, AObj.lt]) (by simp [startR, AV.lt, AV.ltL])
set_option maxRecDepth 100000 in
theorem start_A (m : Mod) (hl : m.inits.length ≤ 1000000) (hl2 : m.events.length ≤ 1000000) : ADet Tryz.prog 72 [.agg (eMod m)] ⟨.agg (eSt (startS m)), [], 0⟩ := by
  refine ADet.still (R := startR m) [0, 1] ?_ ?_ (by simp [AV.lt, AV.ltL])
  · refine adet_of_code mixedT Tryz.func72 rfl (by decide) Tryz.ntmps72 Tryz.results72 rfl (startR_ok _) ?_
    (repeat' (first | simp (maxSteps := 5000000) (implicitDefEqProofs := false) only [ruA, ruB, aEv, ASt.get, aget, ASt.put, aBox, aCells, oneC, oneCL, Value.cells, Value.oneCell', envOf, ↓reduceIte, Nat.reduceLT, Nat.reduceAdd, eq_self, tyZ_43] | (with_reducible refine aIf_split (fun _ => ?_) (fun _ => ?_)) | (with_reducible refine aSel_split (fun _ => ?_) (fun _ => ?_)) | (with_reducible refine aGd_split (fun _ => ?_) (fun _ => ?_))))
    refine aDraw_held [1] [0, 1, 3, 4, 5, 7, 8, 9] (.three 2 (.two 6 (.exec 10 (.take 11 (.exec 12 .done))) 10 (.exec 6 (.take 11 (.exec 12 .done)))) 6 (.two 2 (.exec 10 (.take 11 (.exec 12 .done))) 10 (.exec 2 (.take 11 (.exec 12 .done)))) 10 (.two 2 (.exec 6 (.take 11 (.exec 12 .done))) 6 (.exec 2 (.take 11 (.exec 12 .done))))) (by kernel_rfl) (by simp [ATab.get_cons]) ?_
    (repeat' (first | simp (maxSteps := 5000000) (implicitDefEqProofs := false) only [ruA, ruB, aEv, aTake, aLoad, aField, aLen, ASt.get, aget, ASt.put, aMake, aBuild, aFill, oneParts, aCells, oneC, oneCL, Value.cells, Value.oneCell', aResL, aOne, ↓reduceIte, reduceCtorEq, Nat.reduceLT, Nat.reduceEqDiff, Nat.reduceAdd, Nat.reduceLeDiff, eq_self, ne_eq, aExecS, aStoreB, aTakes, aTakeE, aFrom, AV.shift, aMay, tyA_43, tyS_43, tyF_32_1, tyA_23, tyS_23, tyF_32_5, tyA_26, tyS_26, tyE_26, tyR_34, tyZ_3, tyB_43] | (with_reducible refine aIf_split (fun _ => ?_) (fun _ => ?_)) | (with_reducible refine aSel_split (fun _ => ?_) (fun _ => ?_)) | (with_reducible refine aGd_split (fun _ => ?_) (fun _ => ?_)) | (with_reducible refine aDraw_quiet (by kernel_rfl) ?_) | ((with_reducible apply callT (g := 77)); exact (clone64_A _ hl); exact (.inl (by simp [roL, roA]))) | (with_reducible apply And.intro)))
    all_goals first
      | omega
      | exact ⟨[2, 3], by decide, rfl, by simp [aTabs, startR, ATab.get_cons]⟩
      | exact ⟨[3, 2], by decide, rfl, by simp [aTabs, startR, ATab.get_cons]⟩
      | trace_state
  · simp [startR, startS, Res.frzs, Res.frz, ATab.get_cons, AV.frz, AV.frzL, frzTab, AObj.frz]
end
section
open Go.RowKit
def beginM (m : Mod) : St := passM m (-1) (startS m) m.order.length
end
section
open Go.RowKit
theorem firstI_nat (n : Nat) : firstI (n : Int) = ((2 ^ (min n 31) - 1 : Nat) : Int) := by
  have h1 : (max 0 (min (n : Int) 31)).toNat = min n 31 := by omega
  have h2 : 0 < 2 ^ (min n 31) := Nat.two_pow_pos _
  unfold firstI
  rw [h1]
  generalize min n 31 = k at *
  have : ((2 ^ k : Nat) : Int) = (2 : Int) ^ k := by simp
  omega
theorem ofB_bits (s : Int) (n : Nat) (hs : 0 ≤ s ∧ s < 2147483648) : ofB s (n : Int) = true ↔ ∀ i : Nat, n ≤ i → i < 31 → hasB s (i : Int) = false := by
  obtain ⟨q, rfl⟩ : ∃ q : Nat, s = (q : Int) := ⟨s.toNat, by omega⟩
  have hq : q < 2 ^ 31 := by omega
  have hl : low (q : Int) = q := by
    simp only [low]
    omega
  unfold ofB
  rw [firstI_nat]
  have h2 : 0 < 2 ^ (min n 31) := Nat.two_pow_pos _
  constructor
  · intro h i h3 h4
    simp at h
    have hlt : q < 2 ^ (min n 31) := by omega
    rw [hasB_low _ _ h4, hl]
    refine Nat.testBit_lt_two_pow (Nat.lt_of_lt_of_le hlt ?_)
    exact Nat.pow_le_pow_right (by omega) (by omega)
  · intro h
    have hlt : q < 2 ^ (min n 31) := by
      refine Nat.lt_pow_two_of_testBit _ fun i hi => ?_
      by_cases h31 : i < 31
      · have := h i (by omega) h31
        rwa [hasB_low _ _ h31, hl] at this
      · refine Nat.testBit_lt_two_pow (Nat.lt_of_lt_of_le hq ?_)
        exact Nat.pow_le_pow_right (by omega) (by omega)
    simp
    omega
theorem firstI_31 (n : Nat) : firstI (n : Int) < 2147483648 := by
  rw [firstI_nat]
  have : 2 ^ (min n 31) ≤ 2 ^ 31 := Nat.pow_le_pow_right (by omega) (by omega)
  have h2 : 0 < 2 ^ (min n 31) := Nat.two_pow_pos _
  omega
theorem ofB_31 {s : Int} {n : Nat} (h : ofB s (n : Int) = true) : in31 s := by
  unfold ofB at h
  simp at h
  have := firstI_31 n
  unfold in31
  omega
set_option maxRecDepth 100000 in
theorem within_A (s : Int) (n : Nat) (hs : ok64 s) : ADet Tryz.prog 30 [eI s, eI (n : Int)] (val (.bool (ofB s (n : Int)))) := by
  refine adet_of_code mixedT Tryz.func30 rfl (by decide) Tryz.ntmps30 Tryz.results30 rfl (val_ok _) ?_
  (repeat' (first | simp (maxSteps := 5000000) (implicitDefEqProofs := false) only [ruA, ruB, aEv, ASt.put, envOf] | (with_reducible refine aIf_split (fun _ => ?_) (fun _ => ?_)) | (with_reducible refine aSel_split (fun _ => ?_) (fun _ => ?_)) | (with_reducible refine aGd_split (fun _ => ?_) (fun _ => ?_))))
  refine aLoop_of (fun st => ∃ k : Nat, k ≤ 31 ∧ (∀ i : Nat, n ≤ i → i < k → hasB s (i : Int) = false) ∧ st = ⟨24, [(0, eI s), (1, eI (n : Int)), (5, eI (k : Int))], [], 0⟩) (fun st => 31 - slotN st 5) ⟨_, (weak_cut1 (by (first | ((simp only [envIn, tabIn, envLt, tabLt, AV.lt, ruW, ASt.get, aget, ↓reduceIte, reduceCtorEq, Nat.reduceLT, Nat.reduceEqDiff, eq_self]) <;> (repeat' apply And.intro) <;> first | (rw [wrapK (by omega)]; done) | (simp; done) | omega) | fail))), 0, Nat.zero_le _, by simp, rfl⟩ ?_
  rintro _ ⟨k, hk, hI, rfl⟩
  by_cases hlt : k < 31
  · have h31 : (k : Int) < 31 := by omega
    (repeat' (first | simp (maxSteps := 5000000) (implicitDefEqProofs := false) only [ruA, ruB, aEv, aBin, bin2, ASt.get, aget, ASt.put, aResL, aOne, ↓reduceIte, reduceCtorEq, Nat.reduceLT, Nat.reduceEqDiff, eq_self, h31] | (with_reducible refine aIf_split (fun _ => ?_) (fun _ => ?_)) | (with_reducible refine aSel_split (fun _ => ?_) (fun _ => ?_)) | (with_reducible refine aGd_split (fun _ => ?_) (fun _ => ?_)) | (with_reducible refine aDraw_quiet (by kernel_rfl) ?_) | ((with_reducible apply callV (g := 60)); exact (hasR_A _ _ hs)) | ((with_reducible apply callD (g := 60)); exact (hasR_A _ _ hs))))
    all_goals first
      | (rename_i h1 h2
         simp at h1
         symm
         rw [Bool.eq_false_iff]
         intro hof
         have := (ofB_bits s n (ofB_31 hof)).1 hof k (by omega) hlt
         rw [this] at h2
         cases h2)
      | (rename_i h1 h2
         simp at h1
         refine roundI (weak_cut1 (by (first | ((simp only [envIn, tabIn, envLt, tabLt, AV.lt, ruW, ASt.get, aget, ↓reduceIte, reduceCtorEq, Nat.reduceLT, Nat.reduceEqDiff, eq_self]) <;> (repeat' apply And.intro) <;> first | (rw [wrapK (by omega)]; done) | (simp; done) | omega) | fail))) ⟨k + 1, by omega, fun i hi hi2 => ?_, rfl⟩ (by simp only [slotN, ruW, ASt.get, aget, ↓reduceIte, Nat.reduceLT, Nat.reduceEqDiff, eq_self]; omega)
         rcases Nat.lt_or_ge i k with h3 | h3
         · exact hI i hi h3
         · obtain rfl : i = k := by omega
           exact h2)
      | (rename_i h1
         simp at h1
         refine roundI (weak_cut1 (by (first | ((simp only [envIn, tabIn, envLt, tabLt, AV.lt, ruW, ASt.get, aget, ↓reduceIte, reduceCtorEq, Nat.reduceLT, Nat.reduceEqDiff, eq_self]) <;> (repeat' apply And.intro) <;> first | (rw [wrapK (by omega)]; done) | (simp; done) | omega) | fail))) ⟨k + 1, by omega, fun i hi hi2 => ?_, rfl⟩ (by simp only [slotN, ruW, ASt.get, aget, ↓reduceIte, Nat.reduceLT, Nat.reduceEqDiff, eq_self]; omega)
         exact hI i hi (by omega))
      | trace_state
  · obtain rfl : k = 31 := by omega
    have h31 : (((31 : Nat) : Int) < 31) = False := by simp
    (repeat' (first | simp (maxSteps := 5000000) (implicitDefEqProofs := false) only [ruA, ruB, aEv, aBin, bin2, ASt.get, aget, ASt.put, aResL, aOne, ↓reduceIte, reduceCtorEq, Nat.reduceLT, Nat.reduceEqDiff, eq_self, h31] | (with_reducible refine aIf_split (fun _ => ?_) (fun _ => ?_)) | (with_reducible refine aSel_split (fun _ => ?_) (fun _ => ?_)) | (with_reducible refine aGd_split (fun _ => ?_) (fun _ => ?_)) | (with_reducible refine aDraw_quiet (by kernel_rfl) ?_)))
    · rename_i h1
      simp at h1
      by_cases h2 : s ≤ 2147483647
      · rw [(ofB_bits s n ⟨h1, by omega⟩).2 hI]
        simp [h2]
      · have h3 : ofB s (n : Int) = false := by
          rw [Bool.eq_false_iff]
          intro hof
          have := ofB_31 hof
          unfold in31 at this
          omega
        rw [h3]
        simp [h2]
    · rename_i h1
      simp at h1
      symm
      rw [Bool.eq_false_iff]
      intro hof
      have := ofB_31 hof
      unfold in31 at this
      omega
set_option maxRecDepth 100000 in
set_option maxHeartbeats 8000000 in
theorem checkR_A (m : Mod) (s : St) (hl : m.events.length ≤ 1000000) (ho : ok64 s.opn) (hd : ok64 s.don) (hdid : ∀ x ∈ s.did, ok64 x) : ADet Tryz.prog 10 [.agg (eMod m), .agg (eSt s)] (val (.bool (chkS m s))) := by
  refine adet_of_code mixedT Tryz.func10 rfl (by decide) Tryz.ntmps10 Tryz.results10 rfl (val_ok _) ?_
  by_cases hsz : s.vals.length = m.attrs.length ∧ s.did.length = m.events.length ∧ s.cnt.length = m.events.length
  · obtain ⟨h1, h2, h3⟩ := hsz
    have n1 : (((s.vals.length : Nat) : Int) != ((m.attrs.length : Nat) : Int)) = false := by simp [h1]
    have n2 : (((s.did.length : Nat) : Int) != ((m.events.length : Nat) : Int)) = false := by simp [h2]
    have n3 : (((s.cnt.length : Nat) : Int) != ((m.events.length : Nat) : Int)) = false := by simp [h3]
    have hall : chkS m s = (ofB s.opn m.stages.length && ofB s.don m.miles.length && allN (chkAt m s) m.events.length) := by simp [chkS, h1, h2, h3]
    rw [hall]
    obtain ⟨f, hf⟩ : ∃ f, f = chkAt m s := ⟨_, rfl⟩
    rw [← hf]
    have e0 : allN f 0 = true := rfl
    have loop : ∀ (b0 : Bool) (k : Nat), k < m.events.length → ∀ b, (b0 && allN f k) = b → (b0 && allN f (k + 1)) = (b && f k) := fun b0 k hk b hb => by
      rw [← hb]
      simp [allN, Bool.and_assoc]
    (repeat' (first | simp (maxSteps := 5000000) (implicitDefEqProofs := false) only [ruA, ruB, aEv, aTake, aLoad, aField, aLen, aBin, bin2, ASt.get, aget, ASt.put, aBox, aCells, oneC, oneCL, Value.oneCell', envOf, ↓reduceIte, reduceCtorEq, Nat.reduceLT, Nat.reduceEqDiff, Nat.reduceAdd, Nat.reduceLeDiff, eq_self, ne_eq, tyF_32_5, tyA_26, tyS_26, tyE_26, tyF_43_0, tyA_23, tyS_23, tyE_23, tyF_32_0, tyA_22, tyS_22, tyE_22, tyF_43_3, tyA_34, tyS_34, tyE_34, tyF_43_4, tyF_43_1, tyA_3, tyS_3, tyF_32_4, tyA_25, tyS_25, tyE_25, tyF_43_2, tyF_32_7, tyA_28, tyS_28, tyE_28, n1, n2, n3] | (with_reducible refine aIf_split (fun _ => ?_) (fun _ => ?_)) | (with_reducible refine aSel_split (fun _ => ?_) (fun _ => ?_)) | (with_reducible refine aGd_split (fun _ => ?_) (fun _ => ?_)) | (with_reducible refine aDraw_quiet (by kernel_rfl) ?_) | ((with_reducible apply callV (g := 30)); exact (within_A _ _ ho)) | ((with_reducible apply callD (g := 30)); exact (within_A _ _ ho)) | ((with_reducible apply callV (g := 30)); exact (within_A _ _ hd)) | ((with_reducible apply callD (g := 30)); exact (within_A _ _ hd))))
    · rename_i h
      rw [h, Bool.true_and]
      obtain ⟨b0, hb0⟩ : ∃ b, ofB s.don m.miles.length = b := ⟨_, rfl⟩
      rw [hb0]
      refine aLoop_of (fun st => ∃ k : Nat, k ≤ m.events.length ∧ st = ⟨86, [(2, .op 0 0 0), (3, .op 1 0 0), (5, eI (m.events.length : Int)), (6, eB (b0 && allN f k)), (7, eI (k : Int))], [(0, some (.box 32 (eMod m))), (1, some (.box 43 (eSt s)))], 2⟩) (fun st => m.events.length - slotN st 7) ⟨_, (weak_cut1 (by (first | ((simp only [envIn, tabIn, envLt, tabLt, AObj.lt, AV.lt, AV.ltL, ruW, ASt.get, aget, ↓reduceIte, reduceCtorEq, Nat.reduceLT, Nat.reduceEqDiff, eq_self, e0, Bool.and_true]) <;> (repeat' apply And.intro) <;> first | (rw [wrapK (by omega)]; done) | (simp; done) | omega) | fail))), 0, Nat.zero_le _, rfl⟩ ?_
      rintro _ ⟨k, hk, rfl⟩
      by_cases hlt : k < m.events.length
      · have hd' : k < s.did.length := by omega
        have hc : k < s.cnt.length := by omega
        have eF : f k = (ofB s.did[k] m.users.length && decide (0 ≤ s.cnt[k]) && decide (s.cnt[k] ≤ m.events[k].times)) := by rw [hf]; simp [chkAt, hd', hc, hlt]
        have hs := loop b0 k hlt
        obtain ⟨b, hb⟩ : ∃ b, (b0 && allN f k) = b := ⟨_, rfl⟩
        have hs := hs b hb
        rw [hb]
        (repeat' (first | simp (maxSteps := 5000000) (implicitDefEqProofs := false) only [ruA, ruB, aEv, aTake, aLoad, aField, aIndex, aLen, aBin, bin2, ASt.get, aget, ASt.put, ↓reduceIte, reduceCtorEq, Nat.reduceLT, Nat.reduceEqDiff, Nat.reduceAdd, Nat.reduceLeDiff, eq_self, ne_eq, dref, tyF_32_5, tyA_26, tyS_26, tyE_26, tyA_22, tyS_22, tyE_22, tyF_43_3, tyA_34, tyS_34, tyE_34, tyF_43_4, tyA_3, tyS_3, tyF_32_2, tyF_51_4, row_at, hlt, hd', hc] | (with_reducible refine aIf_split (fun _ => ?_) (fun _ => ?_)) | (with_reducible refine aSel_split (fun _ => ?_) (fun _ => ?_)) | (with_reducible refine aGd_split (fun _ => ?_) (fun _ => ?_)) | (with_reducible refine aDraw_quiet (by kernel_rfl) ?_) | ((with_reducible apply callV (g := 30)); exact (within_A _ _ (hdid _ (List.getElem_mem hd')))) | ((with_reducible apply callD (g := 30)); exact (within_A _ _ (hdid _ (List.getElem_mem hd'))))))
        · have hv : (b0 && allN f (k + 1)) = decide (s.cnt[k] ≤ m.events[k].times) := by grind
          exact roundI (weak_cut1 (by (first | ((simp only [envIn, tabIn, envLt, tabLt, AObj.lt, AV.lt, AV.ltL, ruW, ASt.get, aget, ↓reduceIte, Nat.reduceLT, Nat.reduceEqDiff, eq_self, hv]) <;> (repeat' apply And.intro) <;> first | (rw [wrapK (by omega)]; done) | (simp; done) | omega) | fail))) ⟨k + 1, by omega, rfl⟩ (by simp only [slotN, ruW, ASt.get, aget, ↓reduceIte, Nat.reduceLT, Nat.reduceEqDiff, eq_self]; omega)
        all_goals
          have hv : (b0 && allN f (k + 1)) = false := by grind
          exact roundI (weak_cut1 (by (first | ((simp only [envIn, tabIn, envLt, tabLt, AObj.lt, AV.lt, AV.ltL, ruW, ASt.get, aget, ↓reduceIte, Nat.reduceLT, Nat.reduceEqDiff, eq_self, hv]) <;> (repeat' apply And.intro) <;> first | (rw [wrapK (by omega)]; done) | (simp; done) | omega) | fail))) ⟨k + 1, by omega, rfl⟩ (by simp only [slotN, ruW, ASt.get, aget, ↓reduceIte, Nat.reduceLT, Nat.reduceEqDiff, eq_self]; omega)
      · obtain rfl : k = m.events.length := by omega
        (repeat' (first | simp (maxSteps := 5000000) (implicitDefEqProofs := false) only [ruA, ruB, aEv, aBin, bin2, ASt.get, aget, ASt.put, aResL, aOne, ↓reduceIte, Nat.reduceLT, Nat.reduceEqDiff, eq_self, hlt] | (with_reducible refine aIf_split (fun _ => ?_) (fun _ => ?_)) | (with_reducible refine aSel_split (fun _ => ?_) (fun _ => ?_)) | (with_reducible refine aGd_split (fun _ => ?_) (fun _ => ?_)) | (with_reducible refine aDraw_quiet (by kernel_rfl) ?_)))
    · rename_i h
      rw [h]
      refine aLoop_of (fun st => ∃ k : Nat, k ≤ m.events.length ∧ st = ⟨86, [(2, .op 0 0 0), (3, .op 1 0 0), (5, eI (m.events.length : Int)), (6, eB false), (7, eI (k : Int))], [(0, some (.box 32 (eMod m))), (1, some (.box 43 (eSt s)))], 2⟩) (fun st => m.events.length - slotN st 7) ⟨_, (weak_cut1 (by (first | ((simp only [envIn, tabIn, envLt, tabLt, AObj.lt, AV.lt, AV.ltL, ruW, ASt.get, aget, ↓reduceIte, reduceCtorEq, Nat.reduceLT, Nat.reduceEqDiff, eq_self]) <;> (repeat' apply And.intro) <;> first | (rw [wrapK (by omega)]; done) | (simp; done) | omega) | fail))), 0, Nat.zero_le _, rfl⟩ ?_
      rintro _ ⟨k, hk, rfl⟩
      by_cases hlt : k < m.events.length
      · (repeat' (first | simp (maxSteps := 5000000) (implicitDefEqProofs := false) only [ruA, ruB, aEv, aBin, bin2, ASt.get, aget, ASt.put, ↓reduceIte, Nat.reduceLT, Nat.reduceEqDiff, eq_self, hlt] | (with_reducible refine aIf_split (fun _ => ?_) (fun _ => ?_)) | (with_reducible refine aSel_split (fun _ => ?_) (fun _ => ?_)) | (with_reducible refine aGd_split (fun _ => ?_) (fun _ => ?_)) | (with_reducible refine aDraw_quiet (by kernel_rfl) ?_)))
        all_goals first
          | exact roundI (weak_cut1 (by (first | ((simp only [envIn, tabIn, envLt, tabLt, AObj.lt, AV.lt, AV.ltL, ruW, ASt.get, aget, ↓reduceIte, Nat.reduceLT, Nat.reduceEqDiff, eq_self]) <;> (repeat' apply And.intro) <;> first | (rw [wrapK (by omega)]; done) | (simp; done) | omega) | fail))) ⟨k + 1, by omega, rfl⟩ (by simp only [slotN, ruW, ASt.get, aget, ↓reduceIte, Nat.reduceLT, Nat.reduceEqDiff, eq_self]; omega)
          | trace_state
      · obtain rfl : k = m.events.length := by omega
        (repeat' (first | simp (maxSteps := 5000000) (implicitDefEqProofs := false) only [ruA, ruB, aEv, aBin, bin2, ASt.get, aget, ASt.put, aResL, aOne, ↓reduceIte, Nat.reduceLT, Nat.reduceEqDiff, eq_self, hlt] | (with_reducible refine aIf_split (fun _ => ?_) (fun _ => ?_)) | (with_reducible refine aSel_split (fun _ => ?_) (fun _ => ?_)) | (with_reducible refine aGd_split (fun _ => ?_) (fun _ => ?_)) | (with_reducible refine aDraw_quiet (by kernel_rfl) ?_)))
        simp
  · have hall : chkS m s = false := by
      unfold chkS
      rw [Bool.eq_false_iff]
      simp only [ne_eq, Bool.and_eq_true, decide_eq_true_eq]
      grind
    rw [hall]
    (repeat' (first | simp (maxSteps := 5000000) (implicitDefEqProofs := false) only [ruA, ruB, aEv, aTake, aLoad, aField, aLen, aBin, bin2, ASt.get, aget, ASt.put, aBox, aCells, oneC, oneCL, Value.oneCell', envOf, aResL, aOne, ↓reduceIte, reduceCtorEq, Nat.reduceLT, Nat.reduceEqDiff, Nat.reduceAdd, Nat.reduceLeDiff, eq_self, ne_eq, tyF_32_5, tyA_26, tyS_26, tyE_26, tyF_43_0, tyA_23, tyS_23, tyE_23, tyF_32_0, tyA_22, tyS_22, tyE_22, tyF_43_3, tyA_34, tyS_34, tyE_34, tyF_43_4, tyF_43_1, tyA_3, tyS_3, tyF_32_4, tyA_25, tyS_25, tyE_25] | (with_reducible refine aIf_split (fun _ => ?_) (fun _ => ?_)) | (with_reducible refine aSel_split (fun _ => ?_) (fun _ => ?_)) | (with_reducible refine aGd_split (fun _ => ?_) (fun _ => ?_)) | (with_reducible refine aDraw_quiet (by kernel_rfl) ?_)))
    all_goals first
      | rfl
      | (exfalso; grind)
      | trace_state
end
section
open Go.RowKit
theorem cloneI_A (l : List Int) (hl : l.length ≤ 1000000) : ADet Tryz.prog 56 [sI l] ⟨sI l, [], 0⟩ := by
  refine adet_own_nil (e := 3) ?_
  refine arel_of_code mixedT Tryz.func56 rfl (by decide) Tryz.ntmps56 Tryz.results56 rfl ?_
  (repeat' (first | simp (maxSteps := 5000000) (implicitDefEqProofs := false) only [ruA, aEv, aBin, ASt.get, aget, ASt.put, envOf, ↓reduceIte, reduceCtorEq, Nat.reduceLT, eq_self, aNilS, tyK_34] | (with_reducible refine aIf_split (fun _ => ?_) (fun _ => ?_)) | (with_reducible refine aSel_split (fun _ => ?_) (fun _ => ?_)) | (with_reducible refine aGd_split (fun _ => ?_) (fun _ => ?_))))
  intro c hc
  cases c with
  | true =>
    (repeat' (first | simp (maxSteps := 5000000) (implicitDefEqProofs := false) only [ruA, aEv, ASt.get, aget, ASt.put, aResL, aOne, ↓reduceIte, Nat.reduceLT, eq_self] | (with_reducible refine aIf_split (fun _ => ?_) (fun _ => ?_)) | (with_reducible refine aSel_split (fun _ => ?_) (fun _ => ?_)) | (with_reducible refine aGd_split (fun _ => ?_) (fun _ => ?_))))
    exact retV (.inr ⟨rfl, hc rfl⟩)
  | false =>
    (repeat' (first | simp (maxSteps := 5000000) (implicitDefEqProofs := false) only [ruA, ruB, aEv, ASt.get, aget, ASt.put, aAppend, aBuildSlice, aCells, aLit, aDst, aSrc, appTab, Value.cells, aResL, aOne, ↓reduceIte, reduceCtorEq, Nat.reduceLT, Nat.reduceEqDiff, Nat.reduceAdd, Nat.reduceMul, eq_self, aBuildSlice1, frzs, ownIds, tyR_34] | (with_reducible refine aIf_split (fun _ => ?_) (fun _ => ?_)) | (with_reducible refine aSel_split (fun _ => ?_) (fun _ => ?_)) | (with_reducible refine aGd_split (fun _ => ?_) (fun _ => ?_))))
    exact ⟨rfl, by omega, retO rfl (.inl rfl)⟩
set_option maxRecDepth 100000 in
set_option maxHeartbeats 8000000 in
theorem status_A (zc zg : List (List AV)) (o d : Int) (did cnt : List Int) (h1 : did.length ≤ 1000000) (h2 : cnt.length ≤ 1000000) : ADet Tryz.prog 26 [.agg [.sl 2 zc, .sl 1 zg, eI o, eI d, sI did, sI cnt]] ⟨.agg [.c (.slice none 0 0), eI o, eI d, sI did, sI cnt], [], 0⟩ := by
  have hok : (⟨.agg [.c (.slice none 0 0), eI o, eI d, sI did, sI cnt], [], 0⟩ : Res).Ok := ⟨fun id o h => (by cases h), by simp [AV.lt, AV.ltL]⟩
  refine adet_of_code mixedT Tryz.func26 rfl (by decide) Tryz.ntmps26 Tryz.results26 rfl (hok) ?_
  (repeat' (first | simp (maxSteps := 5000000) (implicitDefEqProofs := false) only [ruA, ruB, aEv, ASt.get, aget, ASt.put, aBox, aCells, oneC, oneCL, Value.cells, Value.oneCell', envOf, ↓reduceIte, Nat.reduceLT, Nat.reduceAdd, eq_self, tyZ_43] | (with_reducible refine aIf_split (fun _ => ?_) (fun _ => ?_)) | (with_reducible refine aSel_split (fun _ => ?_) (fun _ => ?_)) | (with_reducible refine aGd_split (fun _ => ?_) (fun _ => ?_))))
  refine aDraw_held [1] [0, 1, 2, 3, 4, 5, 7, 8] (.exec 6 (.exec 9 (.take 10 (.exec 11 .done)))) (by kernel_rfl) (by simp [ATab.get_cons]) ?_
  (repeat' (first | simp (maxSteps := 5000000) (implicitDefEqProofs := false) only [ruA, ruB, aEv, aTake, aLoad, aField, ASt.get, aget, ASt.put, aBuild, aFill, oneParts, aCells, oneC, oneCL, Value.cells, Value.oneCell', aResL, aOne, ↓reduceIte, reduceCtorEq, Nat.reduceLT, Nat.reduceEqDiff, Nat.reduceAdd, Nat.reduceLeDiff, eq_self, aExecS, aStoreB, aTakes, aTakeE, aFrom, AV.shift, aMay, tyA_43, tyS_43, tyF_38_1, tyA_3, tyS_3, tyF_38_2, tyF_38_3, tyA_34, tyS_34, tyF_38_4, tyB_43] | (with_reducible refine aIf_split (fun _ => ?_) (fun _ => ?_)) | (with_reducible refine aSel_split (fun _ => ?_) (fun _ => ?_)) | (with_reducible refine aGd_split (fun _ => ?_) (fun _ => ?_)) | (with_reducible refine aDraw_quiet (by kernel_rfl) ?_) | ((with_reducible apply callT (g := 56)); exact (cloneI_A did h1); exact (.inl (by simp [roL, roA]))) | ((with_reducible apply callT (g := 56)); exact (cloneI_A cnt h2); exact (.inl (by simp [roL, roA]))) | (with_reducible apply And.intro)))
  all_goals exact gives_tree (by first | rfl | simp [AV.ren, AV.renL])
end
section
def isD (b : Nat) : Bool := decide (48 ≤ b) && decide (b ≤ 57)
def valL (l : List Nat) : Nat := l.foldl (fun n b => n * 10 + (b - 48)) 0
def formedL (l : List Nat) : Bool := !l.isEmpty && l.all isD
def signed (neg : Bool) (l : List Nat) : Int × Int :=
  if formedL l = false then (0, 17) else if (if neg = true then 9223372036854775808 else 9223372036854775807) < valL l then (0, 2) else (if neg = true then -(valL l : Int) else (valL l : Int), 0)
end
section
open Go.RowKit

def LI (w : World) (v : Value) (l : List Int) : Prop :=
  ∃ A c, v = .slice A l.length c ∧ l.length ≤ c ∧ (0 < l.length → ∃ b o, A = some ⟨b, o, none⟩ ∧ b < w.heap.size ∧ ∀ i (h : i < l.length), w.cell? ⟨b, o + i, none⟩ = some (.int .i64 l[i]))
theorem LI.below {w w' : World} {v : Value} {l : List Int} (h : LI w v l) (hb : Below w.heap.size w w') : LI w' v l := by
  obtain ⟨A, c, rfl, hc, hr⟩ := h
  refine ⟨A, c, rfl, hc, fun hp => ?_⟩
  obtain ⟨b, o, hA, hb1, hcell⟩ := hr hp
  exact ⟨b, o, hA, Nat.lt_of_lt_of_le hb1 hb.size, fun i hi => (hb.cell hb1).trans (hcell i hi)⟩
theorem LI.some_ {w : World} {v : Value} {l : List Int} (h : LI w v l) (hp : 0 < l.length) : ∃ b o c, v = .slice (some ⟨b, o, none⟩) l.length c ∧ l.length ≤ c ∧ b < w.heap.size ∧ ∀ i (h : i < l.length), w.cell? ⟨b, o + i, none⟩ = some (.int .i64 l[i]) := by
  obtain ⟨A, c, rfl, hc, hr⟩ := h
  obtain ⟨b, o, rfl, hb, hcell⟩ := hr hp
  exact ⟨b, o, c, rfl, hc, hb, hcell⟩
theorem LI.at_ {w : World} {A : Option Addr} {c : Nat} {l : List Int} (h : LI w (.slice A l.length c) l) {i : Nat} (hi : i < l.length) : ∃ b o, A = some ⟨b, o, none⟩ ∧ b < w.heap.size ∧ w.cell? ⟨b, o + i, none⟩ = some (.int .i64 l[i]) := by
  obtain ⟨A', c', e, hc, hr⟩ := h
  obtain ⟨rfl, _, rfl⟩ : A = A' ∧ l.length = l.length ∧ c = c' := by simpa using e
  obtain ⟨b, o, rfl, hb, hcell⟩ := hr (by omega)
  exact ⟨b, o, rfl, hb, hcell i hi⟩
theorem LI.of_own {w : World} {base n : Nat} {v : Value} {l : List Int} (h : w.ownsRow base 2 1 v n (l.map (Value.int .i64))) (hn : n = l.length) : LI w v l := by
  subst hn
  obtain ⟨A, c, rfl, hc⟩ := own_form h
  refine ⟨A, c, rfl, hc, fun hp => ?_⟩
  obtain ⟨g, c', e, _, _, hg⟩ := own_some h hp
  obtain ⟨rfl, _, rfl⟩ : A = some ⟨g, 0, none⟩ ∧ l.length = l.length ∧ c = c' := by simpa using e
  exact ⟨g, 0, rfl, hg, fun i hi => by rw [Nat.zero_add]; exact own_cell h rfl (by simp [hi])⟩
end
section
open Go.RowKit
def LN (B : Nat) (w : World) (v : Value) (l : List Int) : Prop :=
  ∃ A c, v = .slice A l.length c ∧ l.length ≤ c ∧ c ≤ 9223372036854775807 ∧ (0 < l.length → ∃ b o, A = some ⟨b, o, none⟩ ∧ B ≤ b ∧ b < w.heap.size ∧ ∀ i (h : i < l.length), w.cell? ⟨b, o + i, none⟩ = some (.int .i64 l[i]))
theorem LN.of_own {w : World} {base n : Nat} {v : Value} {l : List Int} (h : w.ownsRow base 2 1 v n (l.map (Value.int .i64))) (hn : n = l.length) : LN base w v l := by
  subst hn
  have h0 := h
  rcases h0.2 with ⟨rfl, h1⟩ | ⟨g, cap, cur, rfl, hb, hg, h2, h3, _⟩
  · exact ⟨none, 0, by rw [h1], by omega, by omega, fun hp => by omega⟩
  · refine ⟨_, cap, rfl, h2, by unfold maxLen at h3; omega, fun hp => ⟨g, 0, rfl, hb, (Array.getElem?_eq_some_iff.1 hg).1, fun i hi => ?_⟩⟩
    rw [Nat.zero_add]
    exact own_cell h rfl (by simp [hi])
theorem LN.rt {B : Nat} {w : World} {S : Nat → Prop} {v : Value} {l : List Int} (h : LN B w v l) (hS : ∀ b, B ≤ b → b < w.heap.size → S b) : RT w S v (sI l) := by
  obtain ⟨A, c, rfl, h1, h2, h3⟩ := h
  have key : ∀ (i j : Nat) (row : List AV) (av : AV), (l.map fun n => [eI n])[i]? = some row → row[j]? = some av → ∃ hi : i < l.length, j = 0 ∧ av = eI l[i] := fun i j row av h4 h5 => by
    have hi : i < l.length := by
      have := (List.getElem?_eq_some_iff.1 h4).1
      simpa using this
    rw [List.getElem?_map, List.getElem?_eq_getElem hi] at h4
    cases h4
    match j with
    | 0 => exact ⟨hi, rfl, by simpa using h5.symm⟩
    | j + 1 => simp at h5
  by_cases h0 : 0 < l.length
  · obtain ⟨b, o, rfl, hb, hbs, hcell⟩ := h3 h0
    refine .sl _ _ c 1 _ b o (fun i _ => .int .i64 (l.getD i 0)) (by simp) h1 h2 (fun _ => ⟨rfl, hS b hb hbs⟩) (fun row hr => by obtain ⟨n, _, rfl⟩ := List.mem_map.1 hr; rfl) (fun _ i j row av h4 h5 => ?_) (fun _ _ _ _ _ _ => rfl) (fun i j row av h4 h5 => ?_)
    · obtain ⟨hi, rfl, _⟩ := key i j row av h4 h5
      rw [Nat.mul_one, Nat.add_zero, hcell i hi, List.getD_eq_getElem?_getD, List.getElem?_eq_getElem hi]
      rfl
    · obtain ⟨hi, rfl, rfl⟩ := key i j row av h4 h5
      rw [List.getD_eq_getElem?_getD, List.getElem?_eq_getElem hi]
      exact .c _
  · have : l = [] := List.length_eq_zero_iff.1 (by omega)
    subst this
    exact .sl A 0 c 1 [] 0 0 (fun _ _ => undef) rfl h1 h2 (fun h => by omega) (by simp) (fun h => by omega) (by simp) (by simp)
theorem LI.of_rt {w : World} {S : Nat → Prop} {v : Value} {l : List Int} (h : RT w S v (sI l)) (hS : SOk w S) : LI w v l := by
  obtain ⟨A, cap, rfl, hc, hm, _, hA⟩ := h.sl_inv
  refine ⟨A, cap, by simp, by simpa using hc, fun h0 => ?_⟩
  obtain ⟨b, o, rfl, hb, U, hcell, hr, _⟩ := hA (by simpa using h0)
  refine ⟨b, o, rfl, hS b hb, fun i hi => ?_⟩
  have h1 : (l.map fun n => [eI n])[i]? = some [eI l[i]] := by simp [hi]
  have h2 := hcell i 0 _ _ h1 rfl
  have h3 := rtc (hr i 0 _ _ h1 rfl)
  rw [h3] at h2
  simpa using h2
theorem adet_of_sl {P : Program} {f : FuncId} {args : List AV} {sz : Nat} {rows : List (List AV)} (he : Enters P f)
    (h : ∀ (S : Nat → Prop) (w : World) (vs : Array Value), SOk w S → vs.size = args.length → (∀ (j : Nat) (v : Value) (av : AV), vs[j]? = some v → args[j]? = some av → RT w S v av) →
      Calls P f vs w fun e w' => ∃ v, e = .returned v ∧ (∀ S', (∀ b, w.heap.size ≤ b → b < w'.heap.size → S' b) → RT w' S' v (.sl sz rows)) ∧ Below w.heap.size w w') : ADet P f args ⟨.sl sz rows, [], 0⟩ :=
  ⟨he, fun S w vs h1 h2 h3 => (h S w vs h1 h2 h3).mono fun e w' ⟨v, h4, h5, h6⟩ => ⟨v, fun _ => undef, ⟨.sl sz rows, [], 0⟩, rfl, ⟨fun id o h => (by cases h), by simp [AV.lt]⟩, h4, ⟨belowX h6, fun id o h => (by cases h), fun id id' o o' g h => (by cases h), fun b hb => hb.elim⟩, .tree (h5 _ fun b hb hb2 => ⟨hb2, ⟨.inr hb, fun hX => hX⟩, fun id o h => (by cases h)⟩)⟩⟩
end
end Go.Proofs.YtbahakgmbceflaaGreat
