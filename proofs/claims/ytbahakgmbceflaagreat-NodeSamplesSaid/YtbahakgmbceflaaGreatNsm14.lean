/-
  Parts of the proof: W1, Y8, Y9, NA, NB, C8, C9, C10, C11.
-/
import Derived.Test.YtbahakgmbceflaaGreatNsm13
set_option linter.unusedVariables false
set_option linter.unusedSimpArgs false
namespace Go.Proofs.YtbahakgmbceflaaGreat
section
open Go.RowKit
def wasN (c : List Int) (i : Nat) : Int := if i < c.length ∧ 0 < c.getD i 0 then c.getD i 0 else 0
def evN (m : Mod) (c : List Int) (k : Nat) : Int := (max 0 ((m.events[k]?.map (·.times)).getD 0 - wasN c k)).toNat * (((m.events[k]?.map (·.sets.length)).getD 0 : Nat) : Int)
def leftN (m : Mod) (c : List Int) : Nat → Int
  | 0 => 0
  | k + 1 => leftN m c k + evN m c k
theorem wasN_pos (c : List Int) (i : Nat) : 0 ≤ wasN c i := by
  unfold wasN
  split <;> omega
set_option maxRecDepth 100000 in
set_option maxHeartbeats 8000000 in
theorem left15K_A (m : Mod) (c : List Int) (he : m.events.length ≤ 10) (hm : ∀ e ∈ m.events, e.times ≤ 1000 ∧ e.sets.length ≤ 10) (hc : c.length ≤ 1000000) : ADet Tryz.prog 29 [.agg (eMod m), sI c] (val (.int .i64 (leftN m c m.events.length))) := by
  refine adet_of_code mixedT Tryz.func29 rfl (by decide) Tryz.ntmps29 Tryz.results29 rfl (val_ok _) ?_
  (repeat' (first | simp (maxSteps := 5000000) (implicitDefEqProofs := false) only [ruA, ruB, aEv, ASt.get, aget, ASt.put, aBox, aCells, oneC, oneCL, envOf, ↓reduceIte, Nat.reduceLT, eq_self] | (with_reducible refine aIf_split (fun _ => ?_) (fun _ => ?_)) | (with_reducible refine aSel_split (fun _ => ?_) (fun _ => ?_)) | (with_reducible refine aGd_split (fun _ => ?_) (fun _ => ?_))))
  refine aLoop_of (fun st => ∃ (k : Nat) (n : Int), k ≤ m.events.length ∧ n = leftN m c k ∧ 0 ≤ n ∧ n ≤ 10000 * k ∧ st = ⟨50, [(1, sI c), (2, .op 0 0 0), (5, eI n), (6, eI (k : Int))], [(0, some (.box 32 (eMod m)))], 1⟩) (fun st => m.events.length - slotN st 6) ⟨_, (weak_cut1 (by (first | ((simp only [envIn, tabIn, envLt, tabLt, AObj.lt, AV.lt, AV.ltL, ruW, ASt.get, aget, ↓reduceIte, Nat.reduceLT, Nat.reduceEqDiff, eq_self]) <;> (repeat' apply And.intro) <;> first | (rw [wrapK (by omega)]; done) | (simp; done) | omega) | fail))), 0, 0, Nat.zero_le _, rfl, by omega, by omega, rfl⟩ ?_
  rintro _ ⟨k, n, hk, hn, hn0, hn1, rfl⟩
  by_cases hlt : k < m.events.length
  · obtain ⟨e, hev⟩ : ∃ e, m.events[k] = e := ⟨_, rfl⟩
    obtain ⟨ht, hs⟩ := hm e (hev ▸ List.getElem_mem hlt)
    have hw0 := wasN_pos c k
    have hE : evN m c k = (max 0 (e.times - wasN c k)).toNat * (e.sets.length : Int) := by
      unfold evN
      rw [List.getElem?_eq_getElem hlt, hev]
      rfl
    obtain ⟨w, hw⟩ : ∃ w, wasN c k = w := ⟨_, rfl⟩
    rw [hw] at hE hw0
    obtain ⟨J, hJ⟩ : ∃ J, (max 0 (e.times - w)).toNat = J := ⟨_, rfl⟩
    rw [hJ] at hE
    have hJ10 : J ≤ 100000 := by omega
    obtain ⟨S, hS⟩ : ∃ S, e.sets.length = S := ⟨_, rfl⟩
    rw [hS] at hE hs
    by_cases hkc : k < c.length
    · by_cases hpos : 0 < c[k]
      · have hwc : c[k] = w := by
          rw [← hw, wasN, if_pos ⟨hkc, by rw [List.getD_eq_getElem?_getD, List.getElem?_eq_getElem hkc]; exact hpos⟩, List.getD_eq_getElem?_getD, List.getElem?_eq_getElem hkc]
          rfl
        have d1 : decide (0 < w) = true := by rw [← hwc]; simpa using hpos
        (repeat' (first | simp (maxSteps := 5000000) (implicitDefEqProofs := false) only [ruA, ruB, aEv, aTake, aLoad, aField, aIndex, aLen, aBin, bin2, ASt.get, aget, ASt.put, ↓reduceIte, reduceCtorEq, Nat.reduceLT, Nat.reduceEqDiff, Nat.reduceAdd, Nat.reduceLeDiff, eq_self, ne_eq, tyF_32_5, tyA_26, tyS_26, tyE_26, tyE_34, tyA_3, tyS_3, row_at, hlt, hkc, hwc, d1] | (with_reducible refine aIf_split (fun _ => ?_) (fun _ => ?_)) | (with_reducible refine aSel_split (fun _ => ?_) (fun _ => ?_)) | (with_reducible refine aGd_split (fun _ => ?_) (fun _ => ?_)) | (with_reducible refine aDraw_quiet (by kernel_rfl) ?_)))
        refine aLoop_of (fun st => ∃ (j : Nat) (was q : Int), j ≤ J ∧ was = w + j ∧ q = n + ((j * S : Nat) : Int) ∧ st = ⟨50, [(1, sI c), (2, .op 0 0 0), (5, eI q), (6, eI (k : Int)), (7, eI was)], [(0, some (.box 32 (eMod m)))], 1⟩) (fun st => 1000 - slotN st 7) ⟨_, (weak_cut1 (by (first | ((simp only [envIn, tabIn, envLt, tabLt, AObj.lt, AV.lt, AV.ltL, ruW, ASt.get, aget, ↓reduceIte, Nat.reduceLT, Nat.reduceEqDiff, eq_self]) <;> (repeat' apply And.intro) <;> first | (rw [wrapK (by omega)]; done) | (simp; done) | omega) | fail))), 0, w, n, Nat.zero_le _, by omega, by simp, rfl⟩ ?_
        rintro _ ⟨j, was, q, hj, hwas, hq, rfl⟩
        have hjs : j * S ≤ 1000 * 10 := Nat.mul_le_mul (by omega) (by omega)
        by_cases hlw : was < e.times
        · have d2 : decide (was < e.times) = true := by simpa using hlw
          have ew1 : IntKind.i64.wrap (q + (S : Int)) = q + (S : Int) := wrap_in (by omega) (by omega)
          have ew2 : IntKind.i64.wrap (was + 1) = was + 1 := wrap_in (by omega) (by omega)
          have hss : (j + 1) * S = j * S + S := Nat.succ_mul j S
          (repeat' (first | simp (maxSteps := 5000000) (implicitDefEqProofs := false) only [ruA, ruB, aEv, aTake, aLoad, aField, aIndex, aLen, aBin, bin2, ASt.get, aget, ASt.put, ↓reduceIte, reduceCtorEq, Nat.reduceLT, Nat.reduceEqDiff, Nat.reduceAdd, Nat.reduceLeDiff, eq_self, ne_eq, tyF_32_5, tyA_26, tyS_26, tyE_26, tyE_34, tyA_3, tyS_3, tyF_51_4, tyF_51_3, tyA_34, tyS_34, row_at, hlt, hev, hS, d2, ew1, ew2] | (with_reducible refine aIf_split (fun _ => ?_) (fun _ => ?_)) | (with_reducible refine aSel_split (fun _ => ?_) (fun _ => ?_)) | (with_reducible refine aGd_split (fun _ => ?_) (fun _ => ?_)) | (with_reducible refine aDraw_quiet (by kernel_rfl) ?_)))
          exact roundI (weak_cut1 (by (first | ((simp only [envIn, tabIn, envLt, tabLt, AObj.lt, AV.lt, AV.ltL, ruW, ASt.get, aget, ↓reduceIte, Nat.reduceLT, Nat.reduceEqDiff, eq_self]) <;> (repeat' apply And.intro) <;> first | (rw [wrapK (by omega)]; done) | (simp; done) | omega) | fail))) ⟨j + 1, was + 1, q + (S : Int), by omega, by omega, by rw [hss]; omega, rfl⟩ (by simp only [slotN, ruW, ASt.get, aget, ↓reduceIte, Nat.reduceLT, Nat.reduceEqDiff, eq_self]; omega)
        · have d2 : decide (was < e.times) = false := by simpa using hlw
          obtain rfl : j = J := by omega
          have hev2 : evN m c k = ((j * S : Nat) : Int) := by rw [hE]; simp
          (repeat' (first | simp (maxSteps := 5000000) (implicitDefEqProofs := false) only [ruA, ruB, aEv, aTake, aLoad, aField, aIndex, aBin, bin2, ASt.get, aget, ASt.put, ↓reduceIte, reduceCtorEq, Nat.reduceLT, Nat.reduceEqDiff, Nat.reduceAdd, Nat.reduceLeDiff, eq_self, tyF_32_5, tyA_26, tyS_26, tyE_26, tyA_3, tyS_3, tyF_51_4, row_at, hlt, hev, d2] | (with_reducible refine aIf_split (fun _ => ?_) (fun _ => ?_)) | (with_reducible refine aSel_split (fun _ => ?_) (fun _ => ?_)) | (with_reducible refine aGd_split (fun _ => ?_) (fun _ => ?_)) | (with_reducible refine aDraw_quiet (by kernel_rfl) ?_)))
          exact roundI (weak_cut1 (by (first | ((simp only [envIn, tabIn, envLt, tabLt, AObj.lt, AV.lt, AV.ltL, ruW, ASt.get, aget, ↓reduceIte, Nat.reduceLT, Nat.reduceEqDiff, eq_self]) <;> (repeat' apply And.intro) <;> first | (rw [wrapK (by omega)]; done) | (simp; done) | omega) | fail))) ⟨k + 1, q, by omega, by rw [leftN, hev2, ← hn, hq], by omega, by omega, rfl⟩ (by simp only [slotN, ruW, ASt.get, aget, ↓reduceIte, Nat.reduceLT, Nat.reduceEqDiff, eq_self]; omega)
      · have d1 : decide (0 < c[k]) = false := by simpa using hpos
        obtain rfl : w = 0 := by rw [← hw, wasN, if_neg (by rw [List.getD_eq_getElem?_getD, List.getElem?_eq_getElem hkc]; exact fun h => hpos h.2)]
        (repeat' (first | simp (maxSteps := 5000000) (implicitDefEqProofs := false) only [ruA, ruB, aEv, aTake, aLoad, aField, aIndex, aLen, aBin, bin2, ASt.get, aget, ASt.put, ↓reduceIte, reduceCtorEq, Nat.reduceLT, Nat.reduceEqDiff, Nat.reduceAdd, Nat.reduceLeDiff, eq_self, ne_eq, tyF_32_5, tyA_26, tyS_26, tyE_26, tyE_34, tyA_3, tyS_3, row_at, hlt, hkc, d1] | (with_reducible refine aIf_split (fun _ => ?_) (fun _ => ?_)) | (with_reducible refine aSel_split (fun _ => ?_) (fun _ => ?_)) | (with_reducible refine aGd_split (fun _ => ?_) (fun _ => ?_)) | (with_reducible refine aDraw_quiet (by kernel_rfl) ?_)))
        refine aLoop_of (fun st => ∃ (j : Nat) (was q : Int), j ≤ J ∧ was = 0 + (j : Int) ∧ q = n + ((j * S : Nat) : Int) ∧ st = ⟨50, [(1, sI c), (2, .op 0 0 0), (5, eI q), (6, eI (k : Int)), (7, eI was)], [(0, some (.box 32 (eMod m)))], 1⟩) (fun st => 1000 - slotN st 7) ⟨_, (weak_cut1 (by (first | ((simp only [envIn, tabIn, envLt, tabLt, AObj.lt, AV.lt, AV.ltL, ruW, ASt.get, aget, ↓reduceIte, Nat.reduceLT, Nat.reduceEqDiff, eq_self]) <;> (repeat' apply And.intro) <;> first | (rw [wrapK (by omega)]; done) | (simp; done) | omega) | fail))), 0, 0, n, Nat.zero_le _, by omega, by simp, rfl⟩ ?_
        rintro _ ⟨j, was, q, hj, hwas, hq, rfl⟩
        have hjs : j * S ≤ 1000 * 10 := Nat.mul_le_mul (by omega) (by omega)
        by_cases hlw : was < e.times
        · have d2 : decide (was < e.times) = true := by simpa using hlw
          have ew1 : IntKind.i64.wrap (q + (S : Int)) = q + (S : Int) := wrap_in (by omega) (by omega)
          have ew2 : IntKind.i64.wrap (was + 1) = was + 1 := wrap_in (by omega) (by omega)
          have hss : (j + 1) * S = j * S + S := Nat.succ_mul j S
          (repeat' (first | simp (maxSteps := 5000000) (implicitDefEqProofs := false) only [ruA, ruB, aEv, aTake, aLoad, aField, aIndex, aLen, aBin, bin2, ASt.get, aget, ASt.put, ↓reduceIte, reduceCtorEq, Nat.reduceLT, Nat.reduceEqDiff, Nat.reduceAdd, Nat.reduceLeDiff, eq_self, ne_eq, tyF_32_5, tyA_26, tyS_26, tyE_26, tyE_34, tyA_3, tyS_3, tyF_51_4, tyF_51_3, tyA_34, tyS_34, row_at, hlt, hev, hS, d2, ew1, ew2] | (with_reducible refine aIf_split (fun _ => ?_) (fun _ => ?_)) | (with_reducible refine aSel_split (fun _ => ?_) (fun _ => ?_)) | (with_reducible refine aGd_split (fun _ => ?_) (fun _ => ?_)) | (with_reducible refine aDraw_quiet (by kernel_rfl) ?_)))
          exact roundI (weak_cut1 (by (first | ((simp only [envIn, tabIn, envLt, tabLt, AObj.lt, AV.lt, AV.ltL, ruW, ASt.get, aget, ↓reduceIte, Nat.reduceLT, Nat.reduceEqDiff, eq_self]) <;> (repeat' apply And.intro) <;> first | (rw [wrapK (by omega)]; done) | (simp; done) | omega) | fail))) ⟨j + 1, was + 1, q + (S : Int), by omega, by omega, by rw [hss]; omega, rfl⟩ (by simp only [slotN, ruW, ASt.get, aget, ↓reduceIte, Nat.reduceLT, Nat.reduceEqDiff, eq_self]; omega)
        · have d2 : decide (was < e.times) = false := by simpa using hlw
          obtain rfl : j = J := by omega
          have hev2 : evN m c k = ((j * S : Nat) : Int) := by rw [hE]; simp
          (repeat' (first | simp (maxSteps := 5000000) (implicitDefEqProofs := false) only [ruA, ruB, aEv, aTake, aLoad, aField, aIndex, aBin, bin2, ASt.get, aget, ASt.put, ↓reduceIte, reduceCtorEq, Nat.reduceLT, Nat.reduceEqDiff, Nat.reduceAdd, Nat.reduceLeDiff, eq_self, tyF_32_5, tyA_26, tyS_26, tyE_26, tyA_3, tyS_3, tyF_51_4, row_at, hlt, hev, d2] | (with_reducible refine aIf_split (fun _ => ?_) (fun _ => ?_)) | (with_reducible refine aSel_split (fun _ => ?_) (fun _ => ?_)) | (with_reducible refine aGd_split (fun _ => ?_) (fun _ => ?_)) | (with_reducible refine aDraw_quiet (by kernel_rfl) ?_)))
          exact roundI (weak_cut1 (by (first | ((simp only [envIn, tabIn, envLt, tabLt, AObj.lt, AV.lt, AV.ltL, ruW, ASt.get, aget, ↓reduceIte, Nat.reduceLT, Nat.reduceEqDiff, eq_self]) <;> (repeat' apply And.intro) <;> first | (rw [wrapK (by omega)]; done) | (simp; done) | omega) | fail))) ⟨k + 1, q, by omega, by rw [leftN, hev2, ← hn, hq], by omega, by omega, rfl⟩ (by simp only [slotN, ruW, ASt.get, aget, ↓reduceIte, Nat.reduceLT, Nat.reduceEqDiff, eq_self]; omega)
    · obtain rfl : w = 0 := by rw [← hw, wasN, if_neg (fun h => hkc h.1)]
      (repeat' (first | simp (maxSteps := 5000000) (implicitDefEqProofs := false) only [ruA, ruB, aEv, aTake, aLoad, aField, aLen, aBin, bin2, ASt.get, aget, ASt.put, ↓reduceIte, reduceCtorEq, Nat.reduceLT, Nat.reduceEqDiff, Nat.reduceAdd, Nat.reduceLeDiff, eq_self, ne_eq, tyF_32_5, tyA_26, tyS_26, tyE_26, tyE_34, hlt, hkc] | (with_reducible refine aIf_split (fun _ => ?_) (fun _ => ?_)) | (with_reducible refine aSel_split (fun _ => ?_) (fun _ => ?_)) | (with_reducible refine aGd_split (fun _ => ?_) (fun _ => ?_)) | (with_reducible refine aDraw_quiet (by kernel_rfl) ?_)))
      refine aLoop_of (fun st => ∃ (j : Nat) (was q : Int), j ≤ J ∧ was = 0 + (j : Int) ∧ q = n + ((j * S : Nat) : Int) ∧ st = ⟨50, [(1, sI c), (2, .op 0 0 0), (5, eI q), (6, eI (k : Int)), (7, eI was)], [(0, some (.box 32 (eMod m)))], 1⟩) (fun st => 1000 - slotN st 7) ⟨_, (weak_cut1 (by (first | ((simp only [envIn, tabIn, envLt, tabLt, AObj.lt, AV.lt, AV.ltL, ruW, ASt.get, aget, ↓reduceIte, Nat.reduceLT, Nat.reduceEqDiff, eq_self]) <;> (repeat' apply And.intro) <;> first | (rw [wrapK (by omega)]; done) | (simp; done) | omega) | fail))), 0, 0, n, Nat.zero_le _, by omega, by simp, rfl⟩ ?_
      rintro _ ⟨j, was, q, hj, hwas, hq, rfl⟩
      have hjs : j * S ≤ 1000 * 10 := Nat.mul_le_mul (by omega) (by omega)
      by_cases hlw : was < e.times
      · have d2 : decide (was < e.times) = true := by simpa using hlw
        have ew1 : IntKind.i64.wrap (q + (S : Int)) = q + (S : Int) := wrap_in (by omega) (by omega)
        have ew2 : IntKind.i64.wrap (was + 1) = was + 1 := wrap_in (by omega) (by omega)
        have hss : (j + 1) * S = j * S + S := Nat.succ_mul j S
        (repeat' (first | simp (maxSteps := 5000000) (implicitDefEqProofs := false) only [ruA, ruB, aEv, aTake, aLoad, aField, aIndex, aLen, aBin, bin2, ASt.get, aget, ASt.put, ↓reduceIte, reduceCtorEq, Nat.reduceLT, Nat.reduceEqDiff, Nat.reduceAdd, Nat.reduceLeDiff, eq_self, ne_eq, tyF_32_5, tyA_26, tyS_26, tyE_26, tyE_34, tyA_3, tyS_3, tyF_51_4, tyF_51_3, tyA_34, tyS_34, row_at, hlt, hev, hS, d2, ew1, ew2] | (with_reducible refine aIf_split (fun _ => ?_) (fun _ => ?_)) | (with_reducible refine aSel_split (fun _ => ?_) (fun _ => ?_)) | (with_reducible refine aGd_split (fun _ => ?_) (fun _ => ?_)) | (with_reducible refine aDraw_quiet (by kernel_rfl) ?_)))
        exact roundI (weak_cut1 (by (first | ((simp only [envIn, tabIn, envLt, tabLt, AObj.lt, AV.lt, AV.ltL, ruW, ASt.get, aget, ↓reduceIte, Nat.reduceLT, Nat.reduceEqDiff, eq_self]) <;> (repeat' apply And.intro) <;> first | (rw [wrapK (by omega)]; done) | (simp; done) | omega) | fail))) ⟨j + 1, was + 1, q + (S : Int), by omega, by omega, by rw [hss]; omega, rfl⟩ (by simp only [slotN, ruW, ASt.get, aget, ↓reduceIte, Nat.reduceLT, Nat.reduceEqDiff, eq_self]; omega)
      · have d2 : decide (was < e.times) = false := by simpa using hlw
        obtain rfl : j = J := by omega
        have hev2 : evN m c k = ((j * S : Nat) : Int) := by rw [hE]; simp
        (repeat' (first | simp (maxSteps := 5000000) (implicitDefEqProofs := false) only [ruA, ruB, aEv, aTake, aLoad, aField, aIndex, aBin, bin2, ASt.get, aget, ASt.put, ↓reduceIte, reduceCtorEq, Nat.reduceLT, Nat.reduceEqDiff, Nat.reduceAdd, Nat.reduceLeDiff, eq_self, tyF_32_5, tyA_26, tyS_26, tyE_26, tyA_3, tyS_3, tyF_51_4, row_at, hlt, hev, d2] | (with_reducible refine aIf_split (fun _ => ?_) (fun _ => ?_)) | (with_reducible refine aSel_split (fun _ => ?_) (fun _ => ?_)) | (with_reducible refine aGd_split (fun _ => ?_) (fun _ => ?_)) | (with_reducible refine aDraw_quiet (by kernel_rfl) ?_)))
        exact roundI (weak_cut1 (by (first | ((simp only [envIn, tabIn, envLt, tabLt, AObj.lt, AV.lt, AV.ltL, ruW, ASt.get, aget, ↓reduceIte, Nat.reduceLT, Nat.reduceEqDiff, eq_self]) <;> (repeat' apply And.intro) <;> first | (rw [wrapK (by omega)]; done) | (simp; done) | omega) | fail))) ⟨k + 1, q, by omega, by rw [leftN, hev2, ← hn, hq], by omega, by omega, rfl⟩ (by simp only [slotN, ruW, ASt.get, aget, ↓reduceIte, Nat.reduceLT, Nat.reduceEqDiff, eq_self]; omega)
  · obtain rfl : k = m.events.length := by omega
    (repeat' (first | simp (maxSteps := 5000000) (implicitDefEqProofs := false) only [ruA, ruB, aEv, aTake, aLoad, aField, aLen, aBin, bin2, ASt.get, aget, ASt.put, aResL, aOne, ↓reduceIte, reduceCtorEq, Nat.reduceLT, Nat.reduceEqDiff, Nat.reduceAdd, Nat.reduceLeDiff, eq_self, ne_eq, tyF_32_5, tyA_26, tyS_26, tyE_26, hlt] | (with_reducible refine aIf_split (fun _ => ?_) (fun _ => ?_)) | (with_reducible refine aSel_split (fun _ => ?_) (fun _ => ?_)) | (with_reducible refine aGd_split (fun _ => ?_) (fun _ => ?_)) | (with_reducible refine aDraw_quiet (by kernel_rfl) ?_)))
    exact hn
set_option maxRecDepth 100000 in
set_option maxHeartbeats 8000000 in
theorem stateLeftK_A (m : Mod) (c : List Int) (he : m.events.length ≤ 10) (hm : ∀ e ∈ m.events, e.times ≤ 1000 ∧ e.sets.length ≤ 10) (hc : c.length ≤ 1000000) : ADet Tryz.prog 48 [.agg (eMod m), sI c] (val (.int .i64 (leftN m c m.events.length))) := by
  refine adet_of_code mixedT Tryz.func48 rfl (by decide) Tryz.ntmps48 Tryz.results48 rfl (val_ok _) ?_
  (repeat' (first | simp (maxSteps := 5000000) (implicitDefEqProofs := false) only [ruA, ruB, aEv, aTake, aLoad, aField, aLen, ASt.get, aget, ASt.put, aBox, aCells, oneC, oneCL, envOf, ↓reduceIte, reduceCtorEq, Nat.reduceLT, Nat.reduceEqDiff, Nat.reduceAdd, Nat.reduceLeDiff, eq_self, ne_eq, tyF_32_5, tyA_26, tyS_26, tyE_26] | (with_reducible refine aIf_split (fun _ => ?_) (fun _ => ?_)) | (with_reducible refine aSel_split (fun _ => ?_) (fun _ => ?_)) | (with_reducible refine aGd_split (fun _ => ?_) (fun _ => ?_))))
  refine aLoop_of (fun st => ∃ (k : Nat) (n : Int), k ≤ m.events.length ∧ n = leftN m c k ∧ 0 ≤ n ∧ n ≤ 10000 * k ∧ st = ⟨42, [(1, sI c), (5, eI n), (10, .sl 5 (m.events.map eEv)), (11, eI (m.events.length : Int)), (12, eI (k : Int))], [], 0⟩) (fun st => m.events.length - slotN st 12) ⟨_, (weak_cut1 (by (first | ((simp only [envIn, tabIn, envLt, tabLt, AV.lt, ruW, ASt.get, aget, ↓reduceIte, Nat.reduceLT, Nat.reduceEqDiff, eq_self]) <;> (repeat' apply And.intro) <;> first | (rw [wrapK (by omega)]; done) | (simp; done) | omega) | fail))), 0, 0, Nat.zero_le _, rfl, by omega, by omega, rfl⟩ ?_
  rintro _ ⟨k, n, hk, hn, hn0, hn1, rfl⟩
  by_cases hlt : k < m.events.length
  · obtain ⟨e, hev⟩ : ∃ e, m.events[k] = e := ⟨_, rfl⟩
    obtain ⟨ht, hs⟩ := hm e (hev ▸ List.getElem_mem hlt)
    have hw0 := wasN_pos c k
    have hE : evN m c k = (max 0 (e.times - wasN c k)).toNat * (e.sets.length : Int) := by
      unfold evN
      rw [List.getElem?_eq_getElem hlt, hev]
      rfl
    obtain ⟨w, hw⟩ : ∃ w, wasN c k = w := ⟨_, rfl⟩
    rw [hw] at hE hw0
    obtain ⟨J, hJ⟩ : ∃ J, (max 0 (e.times - w)).toNat = J := ⟨_, rfl⟩
    rw [hJ] at hE
    have hJ10 : J ≤ 100000 := by omega
    obtain ⟨S, hS⟩ : ∃ S, e.sets.length = S := ⟨_, rfl⟩
    rw [hS] at hE hs
    have hjs : J * S ≤ 1000 * 10 := Nat.mul_le_mul (by omega) (by omega)
    have hL : leftN m c (k + 1) = n + ((J * S : Nat) : Int) := by rw [leftN, hE, ← hn]; simp
    by_cases hlw : w < e.times
    · have d2 : decide (w < e.times) = true := by simpa using hlw
      have ew0 : IntKind.i64.wrap (e.times - w) = (J : Int) := by rw [wrap_in (by omega) (by omega)]; omega
      have ew1 : IntKind.i64.wrap ((J : Int) * (S : Int)) = ((J * S : Nat) : Int) := by rw [← Int.natCast_mul]; exact wrap_in (by omega) (by omega)
      have ew2 : IntKind.i64.wrap (n + ((J * S : Nat) : Int)) = n + ((J * S : Nat) : Int) := wrap_in (by omega) (by omega)
      by_cases hkc : k < c.length
      · have hmx : max 0 c[k] = w := by
          rw [← hw, wasN, List.getD_eq_getElem?_getD, List.getElem?_eq_getElem hkc]
          simp only [Option.getD_some]
          split <;> omega
        (repeat' (first | simp (maxSteps := 5000000) (implicitDefEqProofs := false) only [ruA, ruB, aEv, aTake, aLoad, aField, aIndex, aLen, aBin, bin2, ASt.get, aget, ASt.put, aStore, aBox, aCells, oneC, oneCL, Value.cells, Value.oneCell', ↓reduceIte, reduceCtorEq, Nat.reduceLT, Nat.reduceEqDiff, Nat.reduceAdd, Nat.reduceLeDiff, eq_self, ne_eq, aMM, tyE_26, tyA_51, tyS_51, tyZ_51, tyE_34, tyA_3, tyS_3, tyF_51_4, tyF_51_3, tyA_34, tyS_34, row_at, hlt, hkc, hev, hmx, hS, d2, ew0, ew1, ew2] | (with_reducible refine aIf_split (fun _ => ?_) (fun _ => ?_)) | (with_reducible refine aSel_split (fun _ => ?_) (fun _ => ?_)) | (with_reducible refine aGd_split (fun _ => ?_) (fun _ => ?_)) | (with_reducible refine aDraw_quiet (by kernel_rfl) ?_)))
        exact roundI (weak_cut1 (by (first | ((simp only [envIn, tabIn, envLt, tabLt, AV.lt, ruW, ASt.get, aget, ↓reduceIte, Nat.reduceLT, Nat.reduceEqDiff, eq_self]) <;> (repeat' apply And.intro) <;> first | (rw [wrapK (by omega)]; done) | (simp; done) | omega) | fail))) ⟨k + 1, n + ((J * S : Nat) : Int), by omega, hL.symm, by omega, by omega, rfl⟩ (by simp only [slotN, ruW, ASt.get, aget, ↓reduceIte, Nat.reduceLT, Nat.reduceEqDiff, eq_self]; omega)
      · obtain rfl : w = 0 := by rw [← hw, wasN, if_neg (fun h => hkc h.1)]
        (repeat' (first | simp (maxSteps := 5000000) (implicitDefEqProofs := false) only [ruA, ruB, aEv, aTake, aLoad, aField, aIndex, aLen, aBin, bin2, ASt.get, aget, ASt.put, aStore, aBox, aCells, oneC, oneCL, Value.cells, Value.oneCell', ↓reduceIte, reduceCtorEq, Nat.reduceLT, Nat.reduceEqDiff, Nat.reduceAdd, Nat.reduceLeDiff, eq_self, ne_eq, tyE_26, tyA_51, tyS_51, tyZ_51, tyE_34, tyA_3, tyS_3, tyF_51_4, tyF_51_3, tyA_34, tyS_34, row_at, hlt, hkc, hev, hS, d2, ew0, ew1, ew2] | (with_reducible refine aIf_split (fun _ => ?_) (fun _ => ?_)) | (with_reducible refine aSel_split (fun _ => ?_) (fun _ => ?_)) | (with_reducible refine aGd_split (fun _ => ?_) (fun _ => ?_)) | (with_reducible refine aDraw_quiet (by kernel_rfl) ?_)))
        exact roundI (weak_cut1 (by (first | ((simp only [envIn, tabIn, envLt, tabLt, AV.lt, ruW, ASt.get, aget, ↓reduceIte, Nat.reduceLT, Nat.reduceEqDiff, eq_self]) <;> (repeat' apply And.intro) <;> first | (rw [wrapK (by omega)]; done) | (simp; done) | omega) | fail))) ⟨k + 1, n + ((J * S : Nat) : Int), by omega, hL.symm, by omega, by omega, rfl⟩ (by simp only [slotN, ruW, ASt.get, aget, ↓reduceIte, Nat.reduceLT, Nat.reduceEqDiff, eq_self]; omega)
    · have d2 : decide (w < e.times) = false := by simpa using hlw
      obtain rfl : J = 0 := by omega
      rw [Nat.zero_mul, Int.natCast_zero, Int.add_zero] at hL
      by_cases hkc : k < c.length
      · have hmx : max 0 c[k] = w := by
          rw [← hw, wasN, List.getD_eq_getElem?_getD, List.getElem?_eq_getElem hkc]
          simp only [Option.getD_some]
          split <;> omega
        (repeat' (first | simp (maxSteps := 5000000) (implicitDefEqProofs := false) only [ruA, ruB, aEv, aTake, aLoad, aField, aIndex, aLen, aBin, bin2, ASt.get, aget, ASt.put, aStore, aBox, aCells, oneC, oneCL, Value.cells, Value.oneCell', ↓reduceIte, reduceCtorEq, Nat.reduceLT, Nat.reduceEqDiff, Nat.reduceAdd, eq_self, ne_eq, aMM, tyE_26, tyA_51, tyS_51, tyZ_51, tyE_34, tyA_3, tyS_3, tyF_51_4, row_at, hlt, hkc, hev, hmx, d2] | (with_reducible refine aIf_split (fun _ => ?_) (fun _ => ?_)) | (with_reducible refine aSel_split (fun _ => ?_) (fun _ => ?_)) | (with_reducible refine aGd_split (fun _ => ?_) (fun _ => ?_)) | (with_reducible refine aDraw_quiet (by kernel_rfl) ?_)))
        exact roundI (weak_cut1 (by (first | ((simp only [envIn, tabIn, envLt, tabLt, AV.lt, ruW, ASt.get, aget, ↓reduceIte, Nat.reduceLT, Nat.reduceEqDiff, eq_self]) <;> (repeat' apply And.intro) <;> first | (rw [wrapK (by omega)]; done) | (simp; done) | omega) | fail))) ⟨k + 1, n, by omega, hL.symm, by omega, by omega, rfl⟩ (by simp only [slotN, ruW, ASt.get, aget, ↓reduceIte, Nat.reduceLT, Nat.reduceEqDiff, eq_self]; omega)
      · obtain rfl : w = 0 := by rw [← hw, wasN, if_neg (fun h => hkc h.1)]
        (repeat' (first | simp (maxSteps := 5000000) (implicitDefEqProofs := false) only [ruA, ruB, aEv, aTake, aLoad, aField, aIndex, aLen, aBin, bin2, ASt.get, aget, ASt.put, aStore, aBox, aCells, oneC, oneCL, Value.cells, Value.oneCell', ↓reduceIte, reduceCtorEq, Nat.reduceLT, Nat.reduceEqDiff, Nat.reduceAdd, eq_self, ne_eq, tyE_26, tyA_51, tyS_51, tyZ_51, tyE_34, tyA_3, tyS_3, tyF_51_4, row_at, hlt, hkc, hev, d2] | (with_reducible refine aIf_split (fun _ => ?_) (fun _ => ?_)) | (with_reducible refine aSel_split (fun _ => ?_) (fun _ => ?_)) | (with_reducible refine aGd_split (fun _ => ?_) (fun _ => ?_)) | (with_reducible refine aDraw_quiet (by kernel_rfl) ?_)))
        exact roundI (weak_cut1 (by (first | ((simp only [envIn, tabIn, envLt, tabLt, AV.lt, ruW, ASt.get, aget, ↓reduceIte, Nat.reduceLT, Nat.reduceEqDiff, eq_self]) <;> (repeat' apply And.intro) <;> first | (rw [wrapK (by omega)]; done) | (simp; done) | omega) | fail))) ⟨k + 1, n, by omega, hL.symm, by omega, by omega, rfl⟩ (by simp only [slotN, ruW, ASt.get, aget, ↓reduceIte, Nat.reduceLT, Nat.reduceEqDiff, eq_self]; omega)
  · obtain rfl : k = m.events.length := by omega
    (repeat' (first | simp (maxSteps := 5000000) (implicitDefEqProofs := false) only [ruA, ruB, aEv, aBin, bin2, ASt.get, aget, ASt.put, aResL, aOne, ↓reduceIte, Nat.reduceLT, Nat.reduceEqDiff, eq_self, hlt] | (with_reducible refine aIf_split (fun _ => ?_) (fun _ => ?_)) | (with_reducible refine aSel_split (fun _ => ?_) (fun _ => ?_)) | (with_reducible refine aGd_split (fun _ => ?_) (fun _ => ?_)) | (with_reducible refine aDraw_quiet (by kernel_rfl) ?_)))
    exact hn
end
section
open Go.RowKit
theorem left15_A (m : Mod) (c : List Int) (he : m.events.length ≤ 10) (hm : ∀ e ∈ m.events, e.times ≤ 10 ∧ e.sets.length ≤ 10) (hc : c.length ≤ 1000000) : ADet Tryz.prog 29 [.agg (eMod m), sI c] (val (.int .i64 (leftN m c m.events.length))) :=
  left15K_A m c he (fun e h => ⟨by have := (hm e h).1; omega, (hm e h).2⟩) hc
end
section
open Go.RowKit
def nodeM (m : Mod) (c : List Int) (s : St) : Nd := ⟨zoneM s.vals c (leftN m s.cnt m.events.length), s.opn, s.don, s.did, s.cnt⟩
set_option maxRecDepth 100000 in
set_option maxHeartbeats 32000000 in
theorem nodeOf_A (m : Mod) (c : List Int) (s : St) (he : m.events.length ≤ 10) (hm : ∀ e ∈ m.events, e.times ≤ 10 ∧ e.sets.length ≤ 10) (h1 : s.vals.length ≤ 31) (h2 : c.length ≤ 400) (hv : ∀ x ∈ s.vals, ok64 x) (hc : ∀ x ∈ c, ok64 x) (h3 : s.did.length ≤ 1000000) (h4 : s.cnt.length ≤ 1000000) : ADet Tryz.prog 12 [.agg (eMod m), sI c, .agg (eSt s)] ⟨.agg (eNd (nodeM m c s)), [], 0⟩ := by
  have hL := left15_A m s.cnt he hm h4
  have hO := zoneOf_A s.vals c (leftN m s.cnt m.events.length) h1 h2 hv hc
  unfold nodeM
  obtain ⟨z, hz⟩ : ∃ z, zoneM s.vals c (leftN m s.cnt m.events.length) = z := ⟨_, rfl⟩
  rw [hz] at hO ⊢
  refine ADet.still (R := ⟨.agg [.sl 2 (z.cls.map eCls), sI z.gaps, eI s.opn, eI s.don, .osl 0, .osl 1], [(0, some (.row 3 1 (s.did.map fun n => [eI n]))), (1, some (.row 3 1 (s.cnt.map fun n => [eI n])))], 2⟩) [0, 1] ?_ (by simp [Res.frzs, Res.frz, ATab.get_cons, AV.frz, AV.frzL, frzTab, AObj.frz]) (by simp [AV.lt, AV.ltL])
  refine adet_of_code mixedT Tryz.func12 rfl (by decide) Tryz.ntmps12 Tryz.results12 rfl (tab_ok (by simp [tabLt, AObj.lt]) (by simp [AV.lt, AV.ltL])) ?_
  (repeat' (first | simp (maxSteps := 5000000) (implicitDefEqProofs := false) only [ruA, ruB, aEv, ASt.get, aget, ASt.put, aBox, aCells, oneC, oneCL, Value.cells, Value.oneCell', envOf, ↓reduceIte, Nat.reduceLT, Nat.reduceEqDiff, Nat.reduceAdd, eq_self, tyZ_38] | (with_reducible refine aIf_split (fun _ => ?_) (fun _ => ?_)) | (with_reducible refine aSel_split (fun _ => ?_) (fun _ => ?_)) | (with_reducible refine aGd_split (fun _ => ?_) (fun _ => ?_))))
  refine aDraw_held [2] [0, 1, 2, 3, 4, 5, 8, 9, 10, 11, 13, 14, 17, 18] (.three 6 (.three 7 (.two 12 (.two 15 (.exec 16 (.exec 19 (.take 20 (.exec 21 .done)))) 16 (.exec 15 (.exec 19 (.take 20 (.exec 21 .done))))) 16 (.exec 12 (.exec 15 (.exec 19 (.take 20 (.exec 21 .done)))))) 12 (.two 7 (.two 15 (.exec 16 (.exec 19 (.take 20 (.exec 21 .done)))) 16 (.exec 15 (.exec 19 (.take 20 (.exec 21 .done))))) 16 (.exec 7 (.exec 15 (.exec 19 (.take 20 (.exec 21 .done)))))) 16 (.two 7 (.exec 12 (.exec 15 (.exec 19 (.take 20 (.exec 21 .done))))) 12 (.exec 7 (.exec 15 (.exec 19 (.take 20 (.exec 21 .done))))))) 12 (.two 6 (.two 7 (.two 15 (.exec 16 (.exec 19 (.take 20 (.exec 21 .done)))) 16 (.exec 15 (.exec 19 (.take 20 (.exec 21 .done))))) 16 (.exec 7 (.exec 15 (.exec 19 (.take 20 (.exec 21 .done)))))) 16 (.exec 6 (.exec 7 (.exec 15 (.exec 19 (.take 20 (.exec 21 .done))))))) 16 (.two 6 (.two 7 (.exec 12 (.exec 15 (.exec 19 (.take 20 (.exec 21 .done))))) 12 (.exec 7 (.exec 15 (.exec 19 (.take 20 (.exec 21 .done)))))) 12 (.exec 6 (.exec 7 (.exec 15 (.exec 19 (.take 20 (.exec 21 .done)))))))) (by kernel_rfl) (by simp [ATab.get_cons]) ?_
  (repeat' (first | simp (maxSteps := 5000000) (implicitDefEqProofs := false) only [ruA, ruB, aEv, aTake, aLoad, aField, ASt.get, aget, ASt.put, aAppend, aBuildSlice, aBuild, aFill, oneParts, aCells, oneC, oneCL, aLit, aDst, aSrc, appTab, Value.cells, Value.oneCell', aResL, aOne, ↓reduceIte, reduceCtorEq, Nat.reduceLT, Nat.reduceEqDiff, Nat.reduceAdd, Nat.reduceMul, Nat.reduceLeDiff, eq_self, aExecS, aStoreB, aTakes, aTakeE, aFrom, aFresh, aBuildSlice1, frzs, ownIds, AV.shift, AV.shiftL, aMay, tyA_38, tyS_38, tyF_43_0, tyA_23, tyS_23, tyA_32, tyS_32, tyF_43_4, tyA_34, tyS_34, tyF_43_1, tyA_3, tyS_3, tyF_43_2, tyR_34, tyF_43_3, tyB_38] | (with_reducible refine aIf_split (fun _ => ?_) (fun _ => ?_)) | (with_reducible refine aSel_split (fun _ => ?_) (fun _ => ?_)) | (with_reducible refine aGd_split (fun _ => ?_) (fun _ => ?_)) | (with_reducible refine aDraw_quiet (by kernel_rfl) ?_) | ((with_reducible apply callV); exact (hL)) | ((with_reducible apply callD); exact (hL)) | ((with_reducible apply callT); exact (hO); exact (.inl (by simp [roL, roA]))) | (with_reducible apply And.intro)))
  all_goals first
    | omega
    | rfl
    | exact ⟨[4, 6], by decide, rfl, by simp [aTabs, ATab.get_cons]⟩
    | exact ⟨[5, 6], by decide, rfl, by simp [aTabs, ATab.get_cons]⟩
    | exact ⟨[6, 5], by decide, rfl, by simp [aTabs, ATab.get_cons]⟩
    | exact ⟨[6, 4], by decide, rfl, by simp [aTabs, ATab.get_cons]⟩
    | trace_state
end
section
open Go.RowKit
theorem stateLeft_A (m : Mod) (c : List Int) (he : m.events.length ≤ 10) (hm : ∀ e ∈ m.events, e.times ≤ 10 ∧ e.sets.length ≤ 10) (hc : c.length ≤ 1000000) : ADet Tryz.prog 48 [.agg (eMod m), sI c] (val (.int .i64 (leftN m c m.events.length))) :=
  stateLeftK_A m c he (fun e h => ⟨by have := (hm e h).1; omega, (hm e h).2⟩) hc
set_option maxRecDepth 100000 in
set_option maxHeartbeats 32000000 in
theorem nodeOfC_A (m : Mod) (c : List Int) (s : St) (he : m.events.length ≤ 10) (hm : ∀ e ∈ m.events, e.times ≤ 10 ∧ e.sets.length ≤ 10) (h1 : s.vals.length ≤ 31) (h2 : c.length ≤ 400) (hv : ∀ x ∈ s.vals, ok64 x) (hc : ∀ x ∈ c, ok64 x) (h3 : s.did.length ≤ 1000000) (h4 : s.cnt.length ≤ 1000000) : ADet Tryz.prog 44 [.agg (eMod m), sI c, .agg (eSt s)] ⟨.agg (eNd (nodeM m c s)), [], 0⟩ := by
  have hL := stateLeft_A m s.cnt he hm h4
  have hO := zoneOfC_A s.vals c (leftN m s.cnt m.events.length) h1 h2 hv hc
  unfold nodeM
  obtain ⟨z, hz⟩ : ∃ z, zoneM s.vals c (leftN m s.cnt m.events.length) = z := ⟨_, rfl⟩
  rw [hz] at hO ⊢
  have hok : (⟨.agg (eNd ⟨z, s.opn, s.don, s.did, s.cnt⟩), [], 0⟩ : Res).Ok := ⟨fun id o h => (by cases h), by simp [AV.lt, AV.ltL]⟩
  refine adet_of_code mixedT Tryz.func44 rfl (by decide) Tryz.ntmps44 Tryz.results44 rfl (hok) ?_
  (repeat' (first | simp (maxSteps := 5000000) (implicitDefEqProofs := false) only [ruA, ruB, aEv, ASt.get, aget, ASt.put, aBox, aCells, oneC, oneCL, Value.cells, Value.oneCell', envOf, ↓reduceIte, Nat.reduceLT, Nat.reduceEqDiff, Nat.reduceAdd, eq_self, tyZ_38] | (with_reducible refine aIf_split (fun _ => ?_) (fun _ => ?_)) | (with_reducible refine aSel_split (fun _ => ?_) (fun _ => ?_)) | (with_reducible refine aGd_split (fun _ => ?_) (fun _ => ?_))))
  refine aDraw_held [2] [0, 1, 2, 3, 4, 5, 8, 9, 10, 11, 12, 13, 15, 16] (.exec 6 (.exec 7 (.exec 14 (.exec 17 (.take 18 (.exec 19 .done)))))) (by kernel_rfl) (by simp [ATab.get_cons]) ?_
  (repeat' (first | simp (maxSteps := 5000000) (implicitDefEqProofs := false) only [ruA, ruB, aEv, aTake, aLoad, aField, ASt.get, aget, ASt.put, aBuild, aFill, oneParts, aCells, oneC, oneCL, Value.cells, Value.oneCell', aResL, aOne, ↓reduceIte, reduceCtorEq, Nat.reduceLT, Nat.reduceEqDiff, Nat.reduceAdd, Nat.reduceLeDiff, eq_self, aExecS, aStoreB, aTakes, aTakeE, aFrom, AV.shift, AV.shiftL, aMay, tyA_38, tyS_38, tyF_43_0, tyA_23, tyS_23, tyA_32, tyS_32, tyF_43_4, tyA_34, tyS_34, tyF_43_1, tyA_3, tyS_3, tyF_43_2, tyF_43_3, tyB_38] | (with_reducible refine aIf_split (fun _ => ?_) (fun _ => ?_)) | (with_reducible refine aSel_split (fun _ => ?_) (fun _ => ?_)) | (with_reducible refine aGd_split (fun _ => ?_) (fun _ => ?_)) | (with_reducible refine aDraw_quiet (by kernel_rfl) ?_) | ((with_reducible apply callV); exact (hL)) | ((with_reducible apply callD); exact (hL)) | ((with_reducible apply callT); exact (hO); exact (.inl (by simp [roL, roA]))) | ((with_reducible apply callT (g := 56)); exact (cloneI_A s.did h3); exact (.inl (by simp [roL, roA]))) | ((with_reducible apply callT (g := 56)); exact (cloneI_A s.cnt h4); exact (.inl (by simp [roL, roA]))) | (with_reducible apply And.intro)))
  all_goals exact gives_tree (by first | rfl | simp [AV.ren, AV.renL])
set_option maxRecDepth 100000 in
theorem sameNd_A (n : Nd) (h1 : n.z.cls.length ≤ 1000000) (h2 : n.z.gaps.length ≤ 1000000) (h3 : n.did.length ≤ 1000000) (h4 : n.cnt.length ≤ 1000000) : ADet Tryz.prog 11 [.agg (eNd n), .agg (eNd n)] (val (.bool true)) := by
  refine adet_of_code mixedT Tryz.func11 rfl (by decide) Tryz.ntmps11 Tryz.results11 rfl (val_ok _) ?_
  have hZ := sameZz_A n.z h1 h2
  have hD := same10_A n.did n.did h3
  have hC := same10_A n.cnt n.cnt h4
  rw [decide_eq_true rfl] at hD hC
  have b1 : (n.opn == n.opn) = true := by simp
  have b2 : (n.don == n.don) = true := by simp
  (repeat' (first | simp (maxSteps := 5000000) (implicitDefEqProofs := false) only [ruA, ruB, aEv, aTake, aLoad, aField, aBin, bin2, ASt.get, aget, ASt.put, aBox, aCells, oneC, oneCL, Value.oneCell', envOf, aResL, aOne, ↓reduceIte, reduceCtorEq, Nat.reduceLT, Nat.reduceEqDiff, Nat.reduceAdd, Nat.reduceLeDiff, eq_self, tyF_38_0, tyA_36, tyS_36, tyF_38_1, tyA_3, tyS_3, tyF_38_2, tyF_38_3, tyA_34, tyS_34, tyF_38_4, b1, b2] | (with_reducible refine aIf_split (fun _ => ?_) (fun _ => ?_)) | (with_reducible refine aSel_split (fun _ => ?_) (fun _ => ?_)) | (with_reducible refine aGd_split (fun _ => ?_) (fun _ => ?_)) | (with_reducible refine aDraw_quiet (by kernel_rfl) ?_) | ((with_reducible apply callV); exact (hZ)) | ((with_reducible apply callD); exact (hZ)) | ((with_reducible apply callV); exact (hD)) | ((with_reducible apply callD); exact (hD)) | ((with_reducible apply callV); exact (hC)) | ((with_reducible apply callD); exact (hC))))
end
section
open Go.RowKit
set_option maxRecDepth 100000 in
set_option maxHeartbeats 32000000 in
theorem nodeAt_A (m : Mod) (n : Nd) (he : m.events.length ≤ 10) (hm : ∀ e ∈ m.events, e.times ≤ 10 ∧ e.sets.length ≤ 10) (h4 : n.cnt.length ≤ 1000000) : ADet Tryz.prog 24 [.agg (eMod m), .agg (eNd n)] ⟨.agg (eNd n ++ [eI (leftN m n.cnt m.events.length)]), [], 0⟩ := by
  have hL := stateLeft_A m n.cnt he hm h4
  have hok : (⟨.agg (eNd n ++ [eI (leftN m n.cnt m.events.length)]), [], 0⟩ : Res).Ok := ⟨fun id o h => (by cases h), by simp [AV.lt, AV.ltL]⟩
  generalize leftN m n.cnt m.events.length = L at *
  refine adet_of_code mixedT Tryz.func24 rfl (by decide) Tryz.ntmps24 Tryz.results24 rfl (hok) ?_
  (repeat' (first | simp (maxSteps := 5000000) (implicitDefEqProofs := false) only [ruA, ruB, aEv, ASt.get, aget, ASt.put, aBox, aCells, oneC, oneCL, Value.cells, Value.oneCell', envOf, ↓reduceIte, Nat.reduceLT, Nat.reduceEqDiff, Nat.reduceAdd, eq_self, tyZ_65] | (with_reducible refine aIf_split (fun _ => ?_) (fun _ => ?_)) | (with_reducible refine aSel_split (fun _ => ?_) (fun _ => ?_)) | (with_reducible refine aGd_split (fun _ => ?_) (fun _ => ?_))))
  refine aDraw_held [2] [0, 1, 2, 3] (.exec 4 (.take 5 (.exec 6 .done))) (by kernel_rfl) (by simp [ATab.get_cons]) ?_
  (repeat' (first | simp (maxSteps := 5000000) (implicitDefEqProofs := false) only [ruA, ruB, aEv, aTake, aLoad, aField, ASt.get, aget, ASt.put, aBuild, aFill, oneParts, aCells, oneC, oneCL, Value.cells, Value.oneCell', aResL, aOne, ↓reduceIte, reduceCtorEq, Nat.reduceLT, Nat.reduceEqDiff, Nat.reduceAdd, Nat.reduceLeDiff, eq_self, aExecS, aStoreB, aTakes, aTakeE, aFrom, aMay, tyA_65, tyS_65, tyA_38, tyS_38, tyA_32, tyS_32, tyF_38_4, tyA_34, tyS_34, tyB_65] | (with_reducible refine aIf_split (fun _ => ?_) (fun _ => ?_)) | (with_reducible refine aSel_split (fun _ => ?_) (fun _ => ?_)) | (with_reducible refine aGd_split (fun _ => ?_) (fun _ => ?_)) | (with_reducible refine aDraw_quiet (by kernel_rfl) ?_) | ((with_reducible apply callV); exact (hL)) | ((with_reducible apply callD); exact (hL)) | (with_reducible apply And.intro)))
  all_goals exact gives_tree (by first | rfl | simp [AV.ren, AV.renL])
def statZ (m : Mod) (n : Nd) : St := ⟨List.replicate m.attrs.length 0, n.opn, n.don, n.did, n.cnt⟩
def NodeP (m : Mod) (c : List Int) (n : Nd) : Prop := chkS m (statZ m n) = true ∧ CheckP n.z (m.attrs.length : Int) c (leftN m n.cnt m.events.length)
set_option maxRecDepth 100000 in
set_option maxHeartbeats 32000000 in
theorem nodeCheck_A (m : Mod) (c : List Int) (n : Nd) (he : m.events.length ≤ 10) (hm : ∀ e ∈ m.events, e.times ≤ 10 ∧ e.sets.length ≤ 10) (ha : m.attrs.length ≤ 1000000) (h1 : n.z.cls.length ≤ 1000000) (h2 : n.z.gaps.length ≤ 1000000) (h3 : c.length ≤ 1000000) (hc : ∀ x ∈ c, ok64 x) (h5 : n.did.length ≤ 1000000) (h4 : n.cnt.length ≤ 1000000) : ARel Tryz.prog 23 [.agg (eMod m), sI c, .agg (eNd n)] fun R => ∃ b, R = val (.bool b) ∧ (b = true ↔ NodeP m c n) := by
  refine arel_of_code mixedT Tryz.func23 rfl (by decide) Tryz.ntmps23 Tryz.results23 rfl ?_
  have hA := nodeAt_A m n he hm h4
  have hSt := status_A (n.z.cls.map eCls) (n.z.gaps.map fun n => [eI n]) n.opn n.don n.did n.cnt h5 h4
  have hS := checkS_A m (statZ m n) (by omega)
  have hrep : List.replicate m.attrs.length [eI 0] = (List.replicate m.attrs.length 0).map fun n => [eI n] := by simp
  obtain ⟨t, ht, hZ⟩ := adet_iff (zoneCheck_A n.z (m.attrs.length : Int) c (leftN m n.cnt m.events.length) h1 h2 h3 hc)
  unfold NodeP
  rw [← ht]
  clear ht
  generalize leftN m n.cnt m.events.length = L at *
  have hx : ∀ r, r = chkS m (statZ m n) → True := fun _ _ => trivial
  cases hb : chkS m (statZ m n) with
  | true =>
    rw [hb] at hS
    (repeat' (first | simp (maxSteps := 5000000) (implicitDefEqProofs := false) only [ruA, ruB, aEv, aTake, aLoad, aField, aLen, ASt.get, aget, ASt.put, aStore, aBox, aMake, aCells, oneC, oneCL, Value.cells, Value.oneCell', envOf, ↓reduceIte, reduceCtorEq, Nat.reduceLT, Nat.reduceEqDiff, Nat.reduceAdd, Nat.reduceLeDiff, eq_self, ne_eq, AV.shift, AV.shiftL, tyA_32, tyS_32, tyA_38, tyS_38, tyZ_65, tyS_65, tyF_65_0, tyZ_43, tyS_43, tyF_32_0, tyA_22, tyS_22, tyE_22, tyR_23, tyZ_2, tyF_43_0, tyS_23, tyA_43] | (with_reducible refine aIf_split (fun _ => ?_) (fun _ => ?_)) | (with_reducible refine aSel_split (fun _ => ?_) (fun _ => ?_)) | (with_reducible refine aGd_split (fun _ => ?_) (fun _ => ?_)) | (with_reducible refine aDraw_quiet (by kernel_rfl) ?_) | ((with_reducible apply callT); exact (hA); exact (.inl (by simp [roL, roA, treeL, treeC]))) | ((with_reducible apply callT); exact (hSt); exact (.inl (by simp [roL, roA, treeL, treeC]))) | ((with_reducible apply callV); exact (hS)) | ((with_reducible apply callD); exact (hS)) | ((with_reducible apply callV); exact (hZ)) | ((with_reducible apply callD); exact (hZ))))
    refine ⟨⟨by omega, by omega⟩, ?_⟩
    (repeat' (first | simp (maxSteps := 5000000) (implicitDefEqProofs := false) only [ruA, ruB, aEv, aTake, aLoad, aField, aLen, ASt.get, aget, ASt.put, aResL, aOne, ↓reduceIte, reduceCtorEq, Nat.reduceLT, Nat.reduceEqDiff, Nat.reduceAdd, Nat.reduceLeDiff, eq_self, ne_eq, tyF_65_0, tyF_32_0, tyA_22, tyS_22, tyE_22, tyF_38_0, tyA_36, tyS_36, tyF_65_1, tyA_3, tyS_3, hrep] | (with_reducible refine aIf_split (fun _ => ?_) (fun _ => ?_)) | (with_reducible refine aSel_split (fun _ => ?_) (fun _ => ?_)) | (with_reducible refine aGd_split (fun _ => ?_) (fun _ => ?_)) | (with_reducible refine aDraw_quiet (by kernel_rfl) ?_) | ((with_reducible apply callV); exact (hS)) | ((with_reducible apply callD); exact (hS)) | ((with_reducible apply callV); exact (hZ)) | ((with_reducible apply callD); exact (hZ))))
    all_goals exact retV ⟨t, rfl, by simp⟩
  | false =>
    rw [hb] at hS
    (repeat' (first | simp (maxSteps := 5000000) (implicitDefEqProofs := false) only [ruA, ruB, aEv, aTake, aLoad, aField, aLen, ASt.get, aget, ASt.put, aStore, aBox, aMake, aCells, oneC, oneCL, Value.cells, Value.oneCell', envOf, ↓reduceIte, reduceCtorEq, Nat.reduceLT, Nat.reduceEqDiff, Nat.reduceAdd, Nat.reduceLeDiff, eq_self, ne_eq, AV.shift, AV.shiftL, tyA_32, tyS_32, tyA_38, tyS_38, tyZ_65, tyS_65, tyF_65_0, tyZ_43, tyS_43, tyF_32_0, tyA_22, tyS_22, tyE_22, tyR_23, tyZ_2, tyF_43_0, tyS_23, tyA_43] | (with_reducible refine aIf_split (fun _ => ?_) (fun _ => ?_)) | (with_reducible refine aSel_split (fun _ => ?_) (fun _ => ?_)) | (with_reducible refine aGd_split (fun _ => ?_) (fun _ => ?_)) | (with_reducible refine aDraw_quiet (by kernel_rfl) ?_) | ((with_reducible apply callT); exact (hA); exact (.inl (by simp [roL, roA, treeL, treeC]))) | ((with_reducible apply callT); exact (hSt); exact (.inl (by simp [roL, roA, treeL, treeC]))) | ((with_reducible apply callV); exact (hS)) | ((with_reducible apply callD); exact (hS)) | ((with_reducible apply callV); exact (hZ)) | ((with_reducible apply callD); exact (hZ))))
    refine ⟨⟨by omega, by omega⟩, ?_⟩
    (repeat' (first | simp (maxSteps := 5000000) (implicitDefEqProofs := false) only [ruA, ruB, aEv, ASt.get, aget, ASt.put, aResL, aOne, ↓reduceIte, Nat.reduceLT, Nat.reduceEqDiff, eq_self, hrep] | (with_reducible refine aIf_split (fun _ => ?_) (fun _ => ?_)) | (with_reducible refine aSel_split (fun _ => ?_) (fun _ => ?_)) | (with_reducible refine aGd_split (fun _ => ?_) (fun _ => ?_)) | (with_reducible refine aDraw_quiet (by kernel_rfl) ?_) | ((with_reducible apply callV); exact (hS)) | ((with_reducible apply callD); exact (hS)) | ((with_reducible apply callV); exact (hZ)) | ((with_reducible apply callD); exact (hZ))))
    all_goals exact retV ⟨false, rfl, by simp⟩
theorem nodeP_zone (m : Mod) (c : List Int) (n : Nd) (vals : List Int) (hv : vals.length ≤ 31) (ha : vals.length = m.attrs.length) (hz : n.z = zoneM vals c (leftN m n.cnt m.events.length)) (hs : chkS m (statZ m n) = true) : NodeP m c n := by
  refine ⟨hs, ?_⟩
  rw [hz, ← ha]
  exact check_zone vals c _ hv
def exM27 : Mod := ⟨[⟨#[97]⟩], [2], [], [], [], [], [], [], [], []⟩
def ex27 : Nd := ⟨⟨[⟨1, -1⟩, ⟨0, 0⟩], [0]⟩, 0, 0, [], []⟩
theorem ex27_begin : beginM exM27 = ⟨[2], 0, 0, [], []⟩ := rfl
theorem ex27_zone : zoneM [2] [3] 0 = ex27.z := by
  have h : (zoneM [2] [3] 0).cls.map (fun c => (c.attrs, c.const)) = ex27.z.cls.map (fun c => (c.attrs, c.const)) := by kernel_rfl
  have h2 : (zoneM [2] [3] 0).gaps = ex27.z.gaps := by kernel_rfl
  refine zn_ext ?_ h2
  have inj : ∀ l k : List Cls, l.map (fun c => (c.attrs, c.const)) = k.map (fun c => (c.attrs, c.const)) → l = k := fun l k h => by
    refine (List.map_inj_right fun x y h => ?_).1 h
    cases x
    cases y
    simpa using h
  exact inj _ _ h
theorem ex27_node : nodeM exM27 [3] (beginM exM27) = ex27 := by
  rw [ex27_begin]
  show (⟨zoneM [2] [3] 0, 0, 0, [], []⟩ : Nd) = ex27
  rw [ex27_zone]
  rfl
theorem ex27_chk : chkS exM27 (statZ exM27 ex27) = true := by kernel_rfl
theorem ex27_P : NodeP exM27 [3] ex27 := nodeP_zone exM27 [3] ex27 [2] (by simp) rfl ex27_zone.symm ex27_chk
end
section
open Go.RowKit
set_option maxRecDepth 100000 in
theorem all_A (q : Nat) (hq : q ≤ 1000000) : ARel Tryz.prog 34 [eI (q : Int)] fun R => ∃ v, R = val (.int .i64 v) := by
  refine arel_of_code mixedT Tryz.func34 rfl (by decide) Tryz.ntmps34 Tryz.results34 rfl ?_
  (repeat' (first | simp (maxSteps := 5000000) (implicitDefEqProofs := false) only [ruA, aEv, ASt.put, envOf] | (with_reducible refine aIf_split (fun _ => ?_) (fun _ => ?_)) | (with_reducible refine aSel_split (fun _ => ?_) (fun _ => ?_)) | (with_reducible refine aGd_split (fun _ => ?_) (fun _ => ?_))))
  refine aLoop_of (fun st => ∃ (k : Nat) (v : Int), k ≤ q ∧ st = ⟨14, [(0, eI (q : Int)), (3, eI v), (4, eI (k : Int))], [], 0⟩) (fun st => q - slotN st 4) ⟨_, (weak_cut1 (by (first | ((simp only [envIn, tabIn, envLt, tabLt, AV.lt, ruW, ASt.get, aget, ↓reduceIte, reduceCtorEq, Nat.reduceLT, Nat.reduceEqDiff, eq_self]) <;> (repeat' apply And.intro) <;> first | (rw [wrapK (by omega)]; done) | (simp; done) | omega) | fail))), 0, 0, Nat.zero_le _, rfl⟩ ?_
  rintro _ ⟨k, v, hk, rfl⟩
  by_cases hlt : k < q
  · (repeat' (first | simp (maxSteps := 5000000) (implicitDefEqProofs := false) only [ruA, ruB, aEv, aBin, bin2, ASt.get, aget, ASt.put, ↓reduceIte, reduceCtorEq, Nat.reduceLT, Nat.reduceEqDiff, eq_self, hlt] | (with_reducible refine aIf_split (fun _ => ?_) (fun _ => ?_)) | (with_reducible refine aSel_split (fun _ => ?_) (fun _ => ?_)) | (with_reducible refine aGd_split (fun _ => ?_) (fun _ => ?_))))
    exact roundI (weak_cut1 (by (first | ((simp only [envIn, tabIn, envLt, tabLt, AV.lt, ruW, ASt.get, aget, ↓reduceIte, reduceCtorEq, Nat.reduceLT, Nat.reduceEqDiff, eq_self]) <;> (repeat' apply And.intro) <;> first | (rw [wrapK (by omega)]; done) | (simp; done) | omega) | fail))) ⟨k + 1, IntKind.i64.wrap (IntKind.i64.wrap (2 * v) + 1), by omega, rfl⟩ (by simp only [slotN, ruW, ASt.get, aget, ↓reduceIte, Nat.reduceLT, eq_self]; omega)
  · (repeat' (first | simp (maxSteps := 5000000) (implicitDefEqProofs := false) only [ruA, ruB, aEv, aBin, bin2, ASt.get, aget, ASt.put, aResL, aOne, ↓reduceIte, reduceCtorEq, Nat.reduceLT, Nat.reduceEqDiff, eq_self, hlt] | (with_reducible refine aIf_split (fun _ => ?_) (fun _ => ?_)) | (with_reducible refine aSel_split (fun _ => ?_) (fun _ => ?_)) | (with_reducible refine aGd_split (fun _ => ?_) (fun _ => ?_))))
    exact retV ⟨_, rfl⟩
set_option maxRecDepth 100000 in
theorem arity_A (n : Int) : ARel Tryz.prog 95 [eI n] fun R => ∃ v, R = val (.int .i64 v) := by
  refine arel_of_code mixedT Tryz.func95 rfl (by decide) Tryz.ntmps95 Tryz.results95 rfl ?_
  (repeat' (first | simp (maxSteps := 5000000) (implicitDefEqProofs := false) only [ruA, ruB, aEv, aBin, bin2, ASt.get, aget, ASt.put, envOf, aResL, aOne, ↓reduceIte, reduceCtorEq, Nat.reduceLT, Nat.reduceEqDiff, eq_self] | (with_reducible refine aIf_split (fun _ => ?_) (fun _ => ?_)) | (with_reducible refine aSel_split (fun _ => ?_) (fun _ => ?_)) | (with_reducible refine aGd_split (fun _ => ?_) (fun _ => ?_))))
  all_goals with_reducible exact retV ⟨_, rfl⟩
abbrev eIt (n : Int) : List AV := [eI n, eS ByteArray.empty, eI 0, eS ByteArray.empty, eI 0, eS ByteArray.empty, eS ByteArray.empty, eI 0, eI 0]
set_option maxRecDepth 100000 in
theorem beginC_A (l : List Int) (q : Nat) (hq : q ≤ l.length) (hl : l.length ≤ 1000000) : ARel Tryz.prog 85 [.sl 9 (l.map eIt), eI ((q : Int) - 1)] fun R => ∃ v, R = val (.int .i64 v) := by
  refine arel_of_code mixedT Tryz.func85 rfl (by decide) Tryz.ntmps85 Tryz.results85 rfl ?_
  (repeat' (first | simp (maxSteps := 5000000) (implicitDefEqProofs := false) only [ruA, ruB, aEv, ASt.get, aget, ASt.put, envOf, ↓reduceIte, Nat.reduceLT, Nat.reduceEqDiff, eq_self] | (with_reducible refine aIf_split (fun _ => ?_) (fun _ => ?_)) | (with_reducible refine aSel_split (fun _ => ?_) (fun _ => ?_)) | (with_reducible refine aGd_split (fun _ => ?_) (fun _ => ?_))))
  refine aLoop_of (fun st => ∃ (k : Nat) (v : Int), k ≤ q ∧ st = ⟨28, [(0, .sl 9 (l.map eIt)), (5, eI v), (6, eI ((k : Int) - 1))], [], 0⟩) (fun st => (match st.get 6 with | .c (.int _ n) => (n + 1).toNat | _ => 0)) ⟨_, (weak_cut1 (by (first | ((simp only [envIn, tabIn, envLt, tabLt, AV.lt, ruW, ASt.get, aget, ↓reduceIte, reduceCtorEq, Nat.reduceLT, Nat.reduceEqDiff, eq_self]) <;> (repeat' apply And.intro) <;> first | (rw [wrapK (by omega)]; done) | (simp; done) | omega) | fail))), q, 1, Nat.le_refl _, rfl⟩ ?_
  rintro _ ⟨k, v, hk, rfl⟩
  cases k with
  | zero =>
    have e0 : decide ((0 : Int) ≤ ((0 : Nat) : Int) - 1) = false := by decide
    (repeat' (first | simp (maxSteps := 5000000) (implicitDefEqProofs := false) only [ruA, ruB, aEv, aBin, bin2, ASt.get, aget, ASt.put, aResL, aOne, ↓reduceIte, Nat.reduceLT, eq_self, e0] | (with_reducible refine aIf_split (fun _ => ?_) (fun _ => ?_)) | (with_reducible refine aSel_split (fun _ => ?_) (fun _ => ?_)) | (with_reducible refine aGd_split (fun _ => ?_) (fun _ => ?_))))
    exact retV ⟨_, rfl⟩
  | succ j =>
    have ej : ((j + 1 : Nat) : Int) - 1 = (j : Int) := by omega
    have hj : j < l.length := by omega
    simp only [ej]
    (repeat' (first | simp (maxSteps := 5000000) (implicitDefEqProofs := false) only [ruA, ruB, aEv, aTake, aLoad, aField, aIndex, aBin, bin2, ASt.get, aget, ASt.put, ↓reduceIte, reduceCtorEq, Nat.reduceLT, Nat.reduceEqDiff, Nat.reduceAdd, Nat.reduceLeDiff, eq_self, tyE_113, tyF_123_0, tyA_3, tyS_3, hj, row_at] | (with_reducible refine aIf_split (fun _ => ?_) (fun _ => ?_)) | (with_reducible refine aSel_split (fun _ => ?_) (fun _ => ?_)) | (with_reducible refine aGd_split (fun _ => ?_) (fun _ => ?_))))
    refine callPI (arity_A _) fun n => ?_
    (repeat' (first | simp (maxSteps := 5000000) (implicitDefEqProofs := false) only [ruA, ruB, aEv, aBin, bin2, ASt.get, aget, ASt.put, aResL, aOne, ↓reduceIte, Nat.reduceLT, Nat.reduceEqDiff, eq_self] | (with_reducible refine aIf_split (fun _ => ?_) (fun _ => ?_)) | (with_reducible refine aSel_split (fun _ => ?_) (fun _ => ?_)) | (with_reducible refine aGd_split (fun _ => ?_) (fun _ => ?_))))
    · exact retV ⟨_, rfl⟩
    · exact retV ⟨_, rfl⟩
    · have ew : IntKind.i64.wrap ((j : Int) - 1) = (j : Int) - 1 := wrap_in (by omega) (by omega)
      exact roundI (weak_cut1 (by (first | ((simp only [envIn, tabIn, envLt, tabLt, AV.lt, ruW, ASt.get, aget, ↓reduceIte, reduceCtorEq, Nat.reduceLT, Nat.reduceEqDiff, eq_self, ew]) <;> (repeat' apply And.intro) <;> first | (rw [wrapK (by omega)]; done) | (simp; done) | omega) | fail))) ⟨j, IntKind.i64.wrap (v + IntKind.i64.wrap (n - 1)), by omega, rfl⟩ (by simp only [ruW, aget, ↓reduceIte, Nat.reduceLT, eq_self]; omega)
set_option maxRecDepth 100000 in
theorem check04_A (l : List Int) (hl : l.length ≤ 1000000) : ARel Tryz.prog 64 [.sl 9 (l.map eIt)] fun R => ∃ v, R = val (.int .i64 v) := by
  refine arel_of_code mixedT Tryz.func64 rfl (by decide) Tryz.ntmps64 Tryz.results64 rfl ?_
  have ew : IntKind.i64.wrap ((l.length : Int) - 1) = (l.length : Int) - 1 := wrap_in (by omega) (by omega)
  (repeat' (first | simp (maxSteps := 5000000) (implicitDefEqProofs := false) only [ruA, ruB, aEv, aLen, aBin, bin2, ASt.get, aget, ASt.put, envOf, aResL, aOne, ↓reduceIte, reduceCtorEq, Nat.reduceLT, Nat.reduceEqDiff, eq_self, ne_eq, tyE_113, ew] | (with_reducible refine aIf_split (fun _ => ?_) (fun _ => ?_)) | (with_reducible refine aSel_split (fun _ => ?_) (fun _ => ?_)) | (with_reducible refine aGd_split (fun _ => ?_) (fun _ => ?_))))
  · exact retV ⟨_, rfl⟩
  · exact retV ⟨_, rfl⟩
  · refine callPI (beginC_A l l.length (Nat.le_refl _) hl) fun n => ?_
    (repeat' (first | simp (maxSteps := 5000000) (implicitDefEqProofs := false) only [ruA, aEv, aBin, bin2, ASt.get, aget, ASt.put, aResL, aOne, ↓reduceIte, Nat.reduceLT, eq_self] | (with_reducible refine aIf_split (fun _ => ?_) (fun _ => ?_)) | (with_reducible refine aSel_split (fun _ => ?_) (fun _ => ?_)) | (with_reducible refine aGd_split (fun _ => ?_) (fun _ => ?_))))
    all_goals exact retV ⟨_, rfl⟩
end
section
open Go.RowKit
theorem zz40 : (0 : Int) < ((4 : Nat) : Int) := by decide
theorem zz41 : (1 : Int) < ((4 : Nat) : Int) := by decide
theorem zz42 : (2 : Int) < ((4 : Nat) : Int) := by decide
theorem zz43 : (3 : Int) < ((4 : Nat) : Int) := by decide
def hasI (m : Mod) (x : Inst) : Bool :=
  if (decide (3 ≤ x.op) && decide (x.op ≤ 8)) = true then decide (-1 ≤ x.la) && decide (x.la < (m.attrs.length : Int)) && decide (-1 ≤ x.ra) && decide (x.ra < (m.attrs.length : Int))
  else if (decide (x.op < 9) || decide (12 < x.op)) = true then true
  else decide (0 ≤ x.n) && decide (x.n < (if x.op = 9 then (m.stages.length : Int) else if x.op = 10 then (m.miles.length : Int) else (m.events.length : Int))) && (x.op != 12 || (decide (0 ≤ x.u) && decide (x.u < (m.users.length : Int))))
set_option maxRecDepth 100000 in
set_option maxHeartbeats 4000000 in
theorem hasI_A (m : Mod) (x : Inst) : ADet Tryz.prog 65 [.agg (eMod m), .agg (eInst x)] (val (.bool (hasI m x))) := by
  refine adet_of_code mixedT Tryz.func65 rfl (by decide) Tryz.ntmps65 Tryz.results65 rfl (val_ok _) ?_
  obtain ⟨op, la, ln, ra, rn, n, u⟩ := x
  by_cases h1 : 3 ≤ op ∧ op ≤ 8
  · have e1 : decide (3 ≤ op) = true := by simp; omega
    have e2 : decide (op ≤ 8) = true := by simp; omega
    have eR : hasI m ⟨op, la, ln, ra, rn, n, u⟩ = (decide (-1 ≤ la) && decide (la < (m.attrs.length : Int)) && decide (-1 ≤ ra) && decide (ra < (m.attrs.length : Int))) := by simp [hasI, h1]
    rw [eR]
    (repeat' (first | simp (maxSteps := 5000000) (implicitDefEqProofs := false) only [ruA, ruB, aEv, aTake, aLoad, aField, aLen, aBin, bin2, ASt.get, aget, ASt.put, aBox, aCells, oneC, oneCL, Value.oneCell', envOf, aResL, aOne, ↓reduceIte, reduceCtorEq, Nat.reduceLT, Nat.reduceEqDiff, Nat.reduceAdd, Nat.reduceLeDiff, eq_self, ne_eq, tyF_117_0, tyA_3, tyS_3, tyF_32_0, tyA_22, tyS_22, tyE_22, tyF_117_1, tyF_115_0, tyF_117_2, e1, e2] | (with_reducible refine aIf_split (fun _ => ?_) (fun _ => ?_)) | (with_reducible refine aSel_split (fun _ => ?_) (fun _ => ?_)) | (with_reducible refine aGd_split (fun _ => ?_) (fun _ => ?_))))
    all_goals (rename_i h; simp at h; first | (simp_all; done) | (simp_all; omega))
  · by_cases h2 : op < 9 ∨ 12 < op
    · have eR : hasI m ⟨op, la, ln, ra, rn, n, u⟩ = true := by
        rcases h2 with h2 | h2 <;> simp [hasI, h2] <;> omega
      rw [eR]
      (repeat' (first | simp (maxSteps := 5000000) (implicitDefEqProofs := false) only [ruA, ruB, aEv, aTake, aLoad, aField, aLen, aBin, bin2, ASt.get, aget, ASt.put, aBox, aBuildSlice, aCells, oneC, oneCL, treeC, treeL, aLit, Value.cells, Value.oneCell', envOf, aResL, aOne, ↓reduceIte, reduceCtorEq, Nat.reduceLT, Nat.reduceEqDiff, Nat.reduceAdd, Nat.reduceMul, Nat.reduceLeDiff, eq_self, ne_eq, aBuildSlice1, frzs, ownIds, tyF_117_0, tyA_3, tyS_3, tyF_32_0, tyA_22, tyS_22, tyE_22, tyF_117_1, tyF_115_0, tyF_117_2, tyF_32_4, tyA_25, tyS_25, tyE_25, tyF_32_7, tyA_28, tyS_28, tyE_28, tyF_32_5, tyA_26, tyS_26, tyE_26, tyR_34] | (with_reducible refine aIf_split (fun _ => ?_) (fun _ => ?_)) | (with_reducible refine aSel_split (fun _ => ?_) (fun _ => ?_)) | (with_reducible refine aGd_split (fun _ => ?_) (fun _ => ?_))))
      all_goals first | rfl | (exfalso; simp at *; omega)
    · have h3 : op = 9 ∨ op = 10 ∨ op = 11 ∨ op = 12 := by omega
      rcases h3 with rfl | rfl | rfl | rfl
      · have e1 : decide ((3 : Int) ≤ 9) = true := by decide
        have e2 : decide ((9 : Int) ≤ 8) = false := by decide
        have e3 : decide ((9 : Int) < 9) = false := by decide
        have e4 : decide ((12 : Int) < 9) = false := by decide
        have e5 : ((9 : Int) != 12) = true := by decide
        have ew : IntKind.i64.wrap ((9 : Int) - 9) = 0 := by decide
        (repeat' (first | simp (maxSteps := 5000000) (implicitDefEqProofs := false) only [ruA, ruB, aEv, aTake, aLoad, aField, aLen, aBin, bin2, ASt.get, aget, ASt.put, aBox, aBuildSlice, aCells, oneC, oneCL, treeC, treeL, aLit, Value.cells, Value.oneCell', envOf, ↓reduceIte, reduceCtorEq, Nat.reduceLT, Nat.reduceEqDiff, Nat.reduceAdd, Nat.reduceMul, Nat.reduceLeDiff, eq_self, ne_eq, aBuildSlice1, frzs, ownIds, tyF_117_0, tyA_3, tyS_3, tyF_32_4, tyA_25, tyS_25, tyE_25, tyF_32_7, tyA_28, tyS_28, tyE_28, tyF_32_5, tyA_26, tyS_26, tyE_26, tyR_34, e1, e2, e3, e4] | (with_reducible refine aIf_split (fun _ => ?_) (fun _ => ?_)) | (with_reducible refine aSel_split (fun _ => ?_) (fun _ => ?_)) | (with_reducible refine aGd_split (fun _ => ?_) (fun _ => ?_))))
        refine ⟨rfl, aDraw_quiet (by kernel_rfl) ?_⟩
        (repeat' (first | simp (maxSteps := 5000000) (implicitDefEqProofs := false) only [ruA, ruB, aEv, aTake, aLoad, aField, aIndex, aBin, bin2, ASt.get, aget, ASt.put, aResL, aOne, ↓reduceIte, reduceCtorEq, Nat.reduceLT, Nat.reduceEqDiff, Nat.reduceAdd, Nat.reduceLeDiff, eq_self, tyF_117_0, tyA_3, tyS_3, tyF_117_3, tyE_34, e5, ew, zz40, Int.toNat_zero] | (with_reducible refine aIf_split (fun _ => ?_) (fun _ => ?_)) | (with_reducible refine aSel_split (fun _ => ?_) (fun _ => ?_)) | (with_reducible refine aGd_split (fun _ => ?_) (fun _ => ?_))))
        all_goals first | (simp_all [hasI]; done) | (simp_all [hasI]; omega)
      · have e1 : decide ((3 : Int) ≤ 10) = true := by decide
        have e2 : decide ((10 : Int) ≤ 8) = false := by decide
        have e3 : decide ((10 : Int) < 9) = false := by decide
        have e4 : decide ((12 : Int) < 10) = false := by decide
        have e5 : ((10 : Int) != 12) = true := by decide
        have ew : IntKind.i64.wrap ((10 : Int) - 9) = 1 := by decide
        (repeat' (first | simp (maxSteps := 5000000) (implicitDefEqProofs := false) only [ruA, ruB, aEv, aTake, aLoad, aField, aLen, aBin, bin2, ASt.get, aget, ASt.put, aBox, aBuildSlice, aCells, oneC, oneCL, treeC, treeL, aLit, Value.cells, Value.oneCell', envOf, ↓reduceIte, reduceCtorEq, Nat.reduceLT, Nat.reduceEqDiff, Nat.reduceAdd, Nat.reduceMul, Nat.reduceLeDiff, eq_self, ne_eq, aBuildSlice1, frzs, ownIds, tyF_117_0, tyA_3, tyS_3, tyF_32_4, tyA_25, tyS_25, tyE_25, tyF_32_7, tyA_28, tyS_28, tyE_28, tyF_32_5, tyA_26, tyS_26, tyE_26, tyR_34, e1, e2, e3, e4] | (with_reducible refine aIf_split (fun _ => ?_) (fun _ => ?_)) | (with_reducible refine aSel_split (fun _ => ?_) (fun _ => ?_)) | (with_reducible refine aGd_split (fun _ => ?_) (fun _ => ?_))))
        refine ⟨rfl, aDraw_quiet (by kernel_rfl) ?_⟩
        (repeat' (first | simp (maxSteps := 5000000) (implicitDefEqProofs := false) only [ruA, ruB, aEv, aTake, aLoad, aField, aIndex, aBin, bin2, ASt.get, aget, ASt.put, aResL, aOne, ↓reduceIte, reduceCtorEq, Nat.reduceLT, Nat.reduceEqDiff, Nat.reduceAdd, Nat.reduceLeDiff, eq_self, tyF_117_0, tyA_3, tyS_3, tyF_117_3, tyE_34, e5, ew, zz41, Int.reduceLE, Int.toNat_one] | (with_reducible refine aIf_split (fun _ => ?_) (fun _ => ?_)) | (with_reducible refine aSel_split (fun _ => ?_) (fun _ => ?_)) | (with_reducible refine aGd_split (fun _ => ?_) (fun _ => ?_))))
        all_goals first | (simp_all [hasI]; done) | (simp_all [hasI]; omega)
      · have e1 : decide ((3 : Int) ≤ 11) = true := by decide
        have e2 : decide ((11 : Int) ≤ 8) = false := by decide
        have e3 : decide ((11 : Int) < 9) = false := by decide
        have e4 : decide ((12 : Int) < 11) = false := by decide
        have e5 : ((11 : Int) != 12) = true := by decide
        have ew : IntKind.i64.wrap ((11 : Int) - 9) = 2 := by decide
        (repeat' (first | simp (maxSteps := 5000000) (implicitDefEqProofs := false) only [ruA, ruB, aEv, aTake, aLoad, aField, aLen, aBin, bin2, ASt.get, aget, ASt.put, aBox, aBuildSlice, aCells, oneC, oneCL, treeC, treeL, aLit, Value.cells, Value.oneCell', envOf, ↓reduceIte, reduceCtorEq, Nat.reduceLT, Nat.reduceEqDiff, Nat.reduceAdd, Nat.reduceMul, Nat.reduceLeDiff, eq_self, ne_eq, aBuildSlice1, frzs, ownIds, tyF_117_0, tyA_3, tyS_3, tyF_32_4, tyA_25, tyS_25, tyE_25, tyF_32_7, tyA_28, tyS_28, tyE_28, tyF_32_5, tyA_26, tyS_26, tyE_26, tyR_34, e1, e2, e3, e4] | (with_reducible refine aIf_split (fun _ => ?_) (fun _ => ?_)) | (with_reducible refine aSel_split (fun _ => ?_) (fun _ => ?_)) | (with_reducible refine aGd_split (fun _ => ?_) (fun _ => ?_))))
        refine ⟨rfl, aDraw_quiet (by kernel_rfl) ?_⟩
        (repeat' (first | simp (maxSteps := 5000000) (implicitDefEqProofs := false) only [ruA, ruB, aEv, aTake, aLoad, aField, aIndex, aBin, bin2, ASt.get, aget, ASt.put, aResL, aOne, ↓reduceIte, reduceCtorEq, Nat.reduceLT, Nat.reduceEqDiff, Nat.reduceAdd, Nat.reduceLeDiff, eq_self, tyF_117_0, tyA_3, tyS_3, tyF_117_3, tyE_34, e5, ew, zz42, Int.reduceLE, Int.reduceToNat] | (with_reducible refine aIf_split (fun _ => ?_) (fun _ => ?_)) | (with_reducible refine aSel_split (fun _ => ?_) (fun _ => ?_)) | (with_reducible refine aGd_split (fun _ => ?_) (fun _ => ?_))))
        all_goals first | (simp_all [hasI]; done) | (simp_all [hasI]; omega)
      · have e1 : decide ((3 : Int) ≤ 12) = true := by decide
        have e2 : decide ((12 : Int) ≤ 8) = false := by decide
        have e3 : decide ((12 : Int) < 9) = false := by decide
        have e4 : decide ((12 : Int) < 12) = false := by decide
        have e5 : ((12 : Int) != 12) = false := by decide
        have ew : IntKind.i64.wrap ((12 : Int) - 9) = 3 := by decide
        (repeat' (first | simp (maxSteps := 5000000) (implicitDefEqProofs := false) only [ruA, ruB, aEv, aTake, aLoad, aField, aLen, aBin, bin2, ASt.get, aget, ASt.put, aBox, aBuildSlice, aCells, oneC, oneCL, treeC, treeL, aLit, Value.cells, Value.oneCell', envOf, ↓reduceIte, reduceCtorEq, Nat.reduceLT, Nat.reduceEqDiff, Nat.reduceAdd, Nat.reduceMul, Nat.reduceLeDiff, eq_self, ne_eq, aBuildSlice1, frzs, ownIds, tyF_117_0, tyA_3, tyS_3, tyF_32_4, tyA_25, tyS_25, tyE_25, tyF_32_7, tyA_28, tyS_28, tyE_28, tyF_32_5, tyA_26, tyS_26, tyE_26, tyR_34, e1, e2, e3, e4] | (with_reducible refine aIf_split (fun _ => ?_) (fun _ => ?_)) | (with_reducible refine aSel_split (fun _ => ?_) (fun _ => ?_)) | (with_reducible refine aGd_split (fun _ => ?_) (fun _ => ?_))))
        refine ⟨rfl, aDraw_quiet (by kernel_rfl) ?_⟩
        (repeat' (first | simp (maxSteps := 5000000) (implicitDefEqProofs := false) only [ruA, ruB, aEv, aTake, aLoad, aField, aIndex, aLen, aBin, bin2, ASt.get, aget, ASt.put, aResL, aOne, ↓reduceIte, reduceCtorEq, Nat.reduceLT, Nat.reduceEqDiff, Nat.reduceAdd, Nat.reduceLeDiff, eq_self, ne_eq, tyF_117_0, tyA_3, tyS_3, tyA_22, tyS_22, tyE_22, tyF_117_3, tyE_34, tyF_117_4, tyF_32_2, e5, ew, zz43, Int.reduceLE, Int.reduceToNat] | (with_reducible refine aIf_split (fun _ => ?_) (fun _ => ?_)) | (with_reducible refine aSel_split (fun _ => ?_) (fun _ => ?_)) | (with_reducible refine aGd_split (fun _ => ?_) (fun _ => ?_))))
        all_goals first | (simp_all [hasI]; done) | (simp_all [hasI]; omega)
end
section
open Go.RowKit
set_option maxRecDepth 100000 in
set_option maxHeartbeats 4000000 in
theorem check11_A (m : Mod) (l : List Inst) (prop : Bool) (hl : l.length ≤ 1000) : ARel Tryz.prog 37 [.agg (eMod m), sInsts l, eB prop] fun R => ∃ b, R = val (.bool b) ∧ True := by
  refine arel_of_code mixedT Tryz.func37 rfl (by decide) Tryz.ntmps37 Tryz.results37 rfl ?_
  (repeat' (first | simp (maxSteps := 5000000) (implicitDefEqProofs := false) only [ruA, ruB, aEv, ASt.get, aget, ASt.put, aBox, aCells, oneC, oneCL, envOf, ↓reduceIte, Nat.reduceLT, Nat.reduceAdd, eq_self] | (with_reducible refine aIf_split (fun _ => ?_) (fun _ => ?_)) | (with_reducible refine aSel_split (fun _ => ?_) (fun _ => ?_)) | (with_reducible refine aGd_split (fun _ => ?_) (fun _ => ?_))))
  refine aLoop_of (fun st => ∃ k : Nat, k ≤ l.length ∧ st = ⟨67, [(1, sInsts l), (2, eB prop), (3, .op 0 0 0), (7, .osl 1), (8, eI (k : Int))], [(0, some (.box 32 (eMod m))), (1, some (.row 123 9 (((l.take k).map (·.op)).map eIt)))], 2⟩) (fun st => l.length - slotN st 8) ⟨_, ((weak_nil 7 123 9 (by simp only [ASt.get, aget, ↓reduceIte, Nat.reduceLT, Nat.reduceEqDiff, eq_self])).trans (weak_ren1 [0, 1] ⟨(by decide), (by (first | ((simp only [envInR, tabInR, envLt, tabLt, AObj.lt, AV.lt, AV.ltL, AV.ren, AV.renL, AObj.ren, List.getD_cons_zero, List.getD_cons_succ, List.length_cons, List.length_nil, ruW, ASt.get, aget, ↓reduceIte, reduceCtorEq, Nat.reduceLT, Nat.reduceEqDiff, Nat.reduceAdd, eq_self, List.take_zero]) <;> (repeat' apply And.intro) <;> first | (rw [wrapK (by omega)]; done) | (simp; done) | omega) | fail))⟩)), 0, Nat.zero_le _, rfl⟩ ?_
  rintro _ ⟨k, hk, rfl⟩
  have hlen : (((l.take k).map (·.op)).map eIt).length = k := by simp; omega
  have hlen2 : ((l.take k).map (·.op)).length ≤ 1000000 := by simp; omega
  by_cases hlt : k < l.length
  · have et : ((l.take (k + 1)).map (·.op)).map eIt = ((l.take k).map (·.op)).map eIt ++ [eIt l[k].op] := by
      rw [take_snoc _ _ hlt, List.map_append]; rfl
    (repeat' (first | simp (maxSteps := 5000000) (implicitDefEqProofs := false) only [ruA, ruB, aEv, aTake, aLoad, aField, aIndex, aLen, aBin, bin2, ASt.get, aget, ASt.put, aAppend, aBuildSlice, aBuild, aFill, oneParts, aCells, oneC, oneCL, treeC, treeL, aLit, aDst, aSrc, appTab, Value.cells, Value.oneCell', ↓reduceIte, reduceCtorEq, Nat.reduceLT, Nat.reduceEqDiff, Nat.reduceAdd, Nat.reduceMul, Nat.reduceLeDiff, eq_self, ne_eq, aBuildSlice1, frzs, ownIds, tyE_76, tyF_117_0, tyA_3, tyS_3, tyB_123, tyR_113, row_at, hlt] | (with_reducible refine aIf_split (fun _ => ?_) (fun _ => ?_)) | (with_reducible refine aSel_split (fun _ => ?_) (fun _ => ?_)) | (with_reducible refine aGd_split (fun _ => ?_) (fun _ => ?_))))
    · rename_i h70
      refine ⟨rfl, by simp only [List.length_take]; omega, roundI (weak_ren1 [0, 3] ⟨(by decide), (by (first | ((simp only [envInR, tabInR, envLt, tabLt, AObj.lt, AV.lt, AV.ltL, AV.ren, AV.renL, AObj.ren, List.getD_cons_zero, List.getD_cons_succ, List.length_cons, List.length_nil, ruW, ASt.get, aget, ↓reduceIte, reduceCtorEq, Nat.reduceLT, Nat.reduceEqDiff, Nat.reduceAdd, eq_self, et]) <;> (repeat' apply And.intro) <;> first | (rw [wrapK (by omega)]; done) | (simp; done) | omega) | fail))⟩) ⟨k + 1, by omega, rfl⟩ (by simp only [slotN, ruW, ASt.get, aget, ↓reduceIte, Nat.reduceLT, Nat.reduceEqDiff, eq_self]; omega)⟩
    · refine callPI (check04_A _ hlen2) fun e => ?_
      (repeat' (first | simp (maxSteps := 5000000) (implicitDefEqProofs := false) only [ruA, aEv, aBin, bin2, ASt.get, aget, ASt.put, aResL, aOne, ↓reduceIte, Nat.reduceLT, eq_self] | (with_reducible refine aIf_split (fun _ => ?_) (fun _ => ?_)) | (with_reducible refine aSel_split (fun _ => ?_) (fun _ => ?_)) | (with_reducible refine aGd_split (fun _ => ?_) (fun _ => ?_))))
      · exact retV ⟨_, rfl⟩
      · refine aLoop_of (fun st => ∃ q : Nat, q ≤ l.length ∧ st = ⟨67, [(1, sInsts l), (2, eB prop), (3, .op 0 0 0), (9, eI (q : Int))], [(0, some (.box 32 (eMod m)))], 1⟩) (fun st => l.length - slotN st 9) ⟨_, (weak_cut1 (by (first | ((simp only [envIn, tabIn, envLt, tabLt, AObj.lt, AV.lt, AV.ltL, ruW, ASt.get, aget, ↓reduceIte, Nat.reduceLT, Nat.reduceEqDiff, eq_self]) <;> (repeat' apply And.intro) <;> first | (rw [wrapK (by omega)]; done) | (simp; done) | omega) | fail))), 0, Nat.zero_le _, rfl⟩ ?_
        rintro _ ⟨q, hq, rfl⟩
        by_cases hlt2 : q < l.length
        · (repeat' (first | simp (maxSteps := 5000000) (implicitDefEqProofs := false) only [ruA, ruB, aEv, aTake, aLoad, aField, aIndex, aLen, aBin, bin2, ASt.get, aget, ASt.put, ↓reduceIte, reduceCtorEq, Nat.reduceLT, Nat.reduceEqDiff, Nat.reduceAdd, Nat.reduceLeDiff, eq_self, ne_eq, tyE_76, tyF_117_0, tyA_3, tyS_3, row_at, hlt2] | (with_reducible refine aIf_split (fun _ => ?_) (fun _ => ?_)) | (with_reducible refine aSel_split (fun _ => ?_) (fun _ => ?_)) | (with_reducible refine aGd_split (fun _ => ?_) (fun _ => ?_))))
          refine aDraw_quiet (by kernel_rfl) ?_
          (repeat' (first | simp (maxSteps := 5000000) (implicitDefEqProofs := false) only [ruA, ruB, aEv, aTake, aLoad, aIndex, aUn, un1, ASt.get, aget, ASt.put, ↓reduceIte, Nat.reduceLT, Nat.reduceEqDiff, Nat.reduceAdd, eq_self, dref, dref1, tyE_76, tyA_32, tyS_32, tyA_117, tyS_117, row_at, hlt2] | (with_reducible refine aIf_split (fun _ => ?_) (fun _ => ?_)) | (with_reducible refine aSel_split (fun _ => ?_) (fun _ => ?_)) | (with_reducible refine aGd_split (fun _ => ?_) (fun _ => ?_))))
          refine callD (hasI_A m l[q]) ?_
          (repeat' (first | simp (maxSteps := 5000000) (implicitDefEqProofs := false) only [ruA, ruB, aEv, aBin, bin2, aUn, un1, ASt.get, aget, ASt.put, aResL, aOne, ↓reduceIte, Nat.reduceLT, Nat.reduceEqDiff, eq_self] | (with_reducible refine aIf_split (fun _ => ?_) (fun _ => ?_)) | (with_reducible refine aSel_split (fun _ => ?_) (fun _ => ?_)) | (with_reducible refine aGd_split (fun _ => ?_) (fun _ => ?_))))
          all_goals first | with_reducible exact retV ⟨_, rfl⟩ | exact roundI (weak_cut1 (by (first | ((simp only [envIn, tabIn, envLt, tabLt, AObj.lt, AV.lt, AV.ltL, ruW, ASt.get, aget, ↓reduceIte, Nat.reduceLT, Nat.reduceEqDiff, eq_self]) <;> (repeat' apply And.intro) <;> first | (rw [wrapK (by omega)]; done) | (simp; done) | omega) | fail))) ⟨q + 1, by omega, rfl⟩ (by simp only [slotN, ASt.get, aget, ↓reduceIte, Nat.reduceLT, Nat.reduceEqDiff, eq_self]; omega)
        · (repeat' (first | simp (maxSteps := 5000000) (implicitDefEqProofs := false) only [ruA, ruB, aEv, aLen, aBin, bin2, ASt.get, aget, ASt.put, aResL, aOne, ↓reduceIte, Nat.reduceLT, Nat.reduceEqDiff, eq_self, ne_eq, tyE_76, hlt2] | (with_reducible refine aIf_split (fun _ => ?_) (fun _ => ?_)) | (with_reducible refine aSel_split (fun _ => ?_) (fun _ => ?_)) | (with_reducible refine aGd_split (fun _ => ?_) (fun _ => ?_))))
          exact retV ⟨_, rfl⟩
  · (repeat' (first | simp (maxSteps := 5000000) (implicitDefEqProofs := false) only [ruA, ruB, aEv, aLen, aBin, bin2, ASt.get, aget, ASt.put, ↓reduceIte, Nat.reduceLT, Nat.reduceEqDiff, eq_self, ne_eq, tyE_76, hlt] | (with_reducible refine aIf_split (fun _ => ?_) (fun _ => ?_)) | (with_reducible refine aSel_split (fun _ => ?_) (fun _ => ?_)) | (with_reducible refine aGd_split (fun _ => ?_) (fun _ => ?_))))
    refine callPI (check04_A _ hlen2) fun e => ?_
    (repeat' (first | simp (maxSteps := 5000000) (implicitDefEqProofs := false) only [ruA, aEv, aBin, bin2, ASt.get, aget, ASt.put, aResL, aOne, ↓reduceIte, Nat.reduceLT, eq_self] | (with_reducible refine aIf_split (fun _ => ?_) (fun _ => ?_)) | (with_reducible refine aSel_split (fun _ => ?_) (fun _ => ?_)) | (with_reducible refine aGd_split (fun _ => ?_) (fun _ => ?_))))
    · exact retV ⟨_, rfl⟩
    · refine aLoop_of (fun st => ∃ q : Nat, q ≤ l.length ∧ st = ⟨67, [(1, sInsts l), (2, eB prop), (3, .op 0 0 0), (9, eI (q : Int))], [(0, some (.box 32 (eMod m)))], 1⟩) (fun st => l.length - slotN st 9) ⟨_, (weak_cut1 (by (first | ((simp only [envIn, tabIn, envLt, tabLt, AObj.lt, AV.lt, AV.ltL, ruW, ASt.get, aget, ↓reduceIte, Nat.reduceLT, Nat.reduceEqDiff, eq_self]) <;> (repeat' apply And.intro) <;> first | (rw [wrapK (by omega)]; done) | (simp; done) | omega) | fail))), 0, Nat.zero_le _, rfl⟩ ?_
      rintro _ ⟨q, hq, rfl⟩
      by_cases hlt2 : q < l.length
      · (repeat' (first | simp (maxSteps := 5000000) (implicitDefEqProofs := false) only [ruA, ruB, aEv, aTake, aLoad, aField, aIndex, aLen, aBin, bin2, ASt.get, aget, ASt.put, ↓reduceIte, reduceCtorEq, Nat.reduceLT, Nat.reduceEqDiff, Nat.reduceAdd, Nat.reduceLeDiff, eq_self, ne_eq, tyE_76, tyF_117_0, tyA_3, tyS_3, row_at, hlt2] | (with_reducible refine aIf_split (fun _ => ?_) (fun _ => ?_)) | (with_reducible refine aSel_split (fun _ => ?_) (fun _ => ?_)) | (with_reducible refine aGd_split (fun _ => ?_) (fun _ => ?_))))
        refine aDraw_quiet (by kernel_rfl) ?_
        (repeat' (first | simp (maxSteps := 5000000) (implicitDefEqProofs := false) only [ruA, ruB, aEv, aTake, aLoad, aIndex, aUn, un1, ASt.get, aget, ASt.put, ↓reduceIte, Nat.reduceLT, Nat.reduceEqDiff, Nat.reduceAdd, eq_self, dref, dref1, tyE_76, tyA_32, tyS_32, tyA_117, tyS_117, row_at, hlt2] | (with_reducible refine aIf_split (fun _ => ?_) (fun _ => ?_)) | (with_reducible refine aSel_split (fun _ => ?_) (fun _ => ?_)) | (with_reducible refine aGd_split (fun _ => ?_) (fun _ => ?_))))
        refine callD (hasI_A m l[q]) ?_
        (repeat' (first | simp (maxSteps := 5000000) (implicitDefEqProofs := false) only [ruA, ruB, aEv, aBin, bin2, aUn, un1, ASt.get, aget, ASt.put, aResL, aOne, ↓reduceIte, Nat.reduceLT, Nat.reduceEqDiff, eq_self] | (with_reducible refine aIf_split (fun _ => ?_) (fun _ => ?_)) | (with_reducible refine aSel_split (fun _ => ?_) (fun _ => ?_)) | (with_reducible refine aGd_split (fun _ => ?_) (fun _ => ?_))))
        all_goals first | with_reducible exact retV ⟨_, rfl⟩ | exact roundI (weak_cut1 (by (first | ((simp only [envIn, tabIn, envLt, tabLt, AObj.lt, AV.lt, AV.ltL, ruW, ASt.get, aget, ↓reduceIte, Nat.reduceLT, Nat.reduceEqDiff, eq_self]) <;> (repeat' apply And.intro) <;> first | (rw [wrapK (by omega)]; done) | (simp; done) | omega) | fail))) ⟨q + 1, by omega, rfl⟩ (by simp only [slotN, ASt.get, aget, ↓reduceIte, Nat.reduceLT, Nat.reduceEqDiff, eq_self]; omega)
      · (repeat' (first | simp (maxSteps := 5000000) (implicitDefEqProofs := false) only [ruA, ruB, aEv, aLen, aBin, bin2, ASt.get, aget, ASt.put, aResL, aOne, ↓reduceIte, Nat.reduceLT, Nat.reduceEqDiff, eq_self, ne_eq, tyE_76, hlt2] | (with_reducible refine aIf_split (fun _ => ?_) (fun _ => ?_)) | (with_reducible refine aSel_split (fun _ => ?_) (fun _ => ?_)) | (with_reducible refine aGd_split (fun _ => ?_) (fun _ => ?_))))
        exact retV ⟨_, rfl⟩
end
section
open Go.RowKit
set_option maxRecDepth 100000 in
theorem refParents_A (m : Mod) (hl : m.stages.length ≤ 1000000) : ADet Tryz.prog 18 [.agg (eMod m)] (own 3 1 ((pars m).map fun n => [eI n])) := by
  refine adet_of_code mixedT Tryz.func18 rfl (by decide) Tryz.ntmps18 Tryz.results18 rfl (own_ok _ _ _) ?_
  (repeat' (first | simp (maxSteps := 5000000) (implicitDefEqProofs := false) only [ruA, ruB, aEv, ASt.get, aget, ASt.put, aBox, aCells, oneC, oneCL, envOf, ↓reduceIte, Nat.reduceLT, eq_self] | (with_reducible refine aIf_split (fun _ => ?_) (fun _ => ?_)) | (with_reducible refine aSel_split (fun _ => ?_) (fun _ => ?_)) | (with_reducible refine aGd_split (fun _ => ?_) (fun _ => ?_))))
  refine aLoop_of (fun st => ∃ k : Nat, k ≤ m.stages.length ∧ st = ⟨22, [(1, .op 0 0 0), (3, .osl 1), (4, eI (k : Int))], [(0, some (.box 32 (eMod m))), (1, some (.row 3 1 ((m.stages.take k).map fun p => [eI p.2])))], 2⟩) (fun st => m.stages.length - slotN st 4) ⟨_, ((weak_nil 3 3 1 (by simp only [ASt.get, aget, ↓reduceIte, Nat.reduceLT, Nat.reduceEqDiff, eq_self])).trans (weak_ren1 [0, 1] ⟨(by decide), (by (first | ((simp only [envInR, tabInR, envLt, tabLt, AObj.lt, AV.lt, AV.ltL, AV.ren, AV.renL, AObj.ren, List.getD_cons_zero, List.getD_cons_succ, List.length_cons, List.length_nil, ruW, ASt.get, aget, ↓reduceIte, reduceCtorEq, Nat.reduceLT, Nat.reduceEqDiff, Nat.reduceAdd, eq_self, List.take_zero]) <;> (repeat' apply And.intro) <;> first | (rw [wrapK (by omega)]; done) | (simp; done) | omega) | fail))⟩)), 0, Nat.zero_le _, rfl⟩ ?_
  rintro _ ⟨k, hk, rfl⟩
  by_cases hlt : k < m.stages.length
  · have et : (m.stages.take (k + 1)).map (fun p => [eI p.2]) = (m.stages.take k).map (fun p => [eI p.2]) ++ [[eI m.stages[k].2]] := take_snoc _ _ hlt
    (repeat' (first | simp (maxSteps := 5000000) (implicitDefEqProofs := false) only [ruA, ruB, aEv, aTake, aLoad, aField, aIndex, aLen, aBin, bin2, ASt.get, aget, ASt.put, aAppend, aBuildSlice, aCells, oneC, oneCL, treeC, treeL, aLit, aDst, aSrc, appTab, Value.cells, Value.oneCell', ↓reduceIte, reduceCtorEq, Nat.reduceLT, Nat.reduceEqDiff, Nat.reduceAdd, Nat.reduceMul, Nat.reduceLeDiff, eq_self, ne_eq, aBuildSlice1, frzs, ownIds, tyF_32_4, tyA_25, tyS_25, tyE_25, tyF_85_1, tyA_3, tyS_3, tyR_34, row_at, hlt] | (with_reducible refine aIf_split (fun _ => ?_) (fun _ => ?_)) | (with_reducible refine aSel_split (fun _ => ?_) (fun _ => ?_)) | (with_reducible refine aGd_split (fun _ => ?_) (fun _ => ?_))))
    refine ⟨rfl, by simp only [List.length_take]; omega, roundI (weak_ren1 [0, 3] ⟨(by decide), (by (first | ((simp only [envInR, tabInR, envLt, tabLt, AObj.lt, AV.lt, AV.ltL, AV.ren, AV.renL, AObj.ren, List.getD_cons_zero, List.getD_cons_succ, List.length_cons, List.length_nil, ruW, ASt.get, aget, ↓reduceIte, reduceCtorEq, Nat.reduceLT, Nat.reduceEqDiff, Nat.reduceAdd, eq_self, et]) <;> (repeat' apply And.intro) <;> first | (rw [wrapK (by omega)]; done) | (simp; done) | omega) | fail))⟩) ⟨k + 1, by omega, rfl⟩ (by simp only [slotN, ruW, ASt.get, aget, ↓reduceIte, Nat.reduceLT, Nat.reduceEqDiff, eq_self]; omega)⟩
  · obtain rfl : k = m.stages.length := by omega
    (repeat' (first | simp (maxSteps := 5000000) (implicitDefEqProofs := false) only [ruA, ruB, aEv, aTake, aLoad, aField, aLen, aBin, bin2, ASt.get, aget, ASt.put, aResL, aOne, ↓reduceIte, reduceCtorEq, Nat.reduceLT, Nat.reduceEqDiff, Nat.reduceAdd, Nat.reduceLeDiff, eq_self, ne_eq, tyF_32_4, tyA_25, tyS_25, tyE_25, hlt] | (with_reducible refine aIf_split (fun _ => ?_) (fun _ => ?_)) | (with_reducible refine aSel_split (fun _ => ?_) (fun _ => ?_)) | (with_reducible refine aGd_split (fun _ => ?_) (fun _ => ?_))))
    exact aGives_own (by simp [ATab.get_cons, pars])
set_option maxRecDepth 100000 in
set_option maxHeartbeats 4000000 in
theorem writes_A (l : List Ev) (hl : l.length ≤ 1000000) : ARel Tryz.prog 16 [.sl 5 (l.map eEv)] fun R => ∃ v, R = val (.int .i64 v) := by
  refine arel_of_code mixedT Tryz.func16 rfl (by decide) Tryz.ntmps16 Tryz.results16 rfl ?_
  (repeat' (first | simp (maxSteps := 5000000) (implicitDefEqProofs := false) only [ruA, aEv, ASt.put, envOf] | (with_reducible refine aIf_split (fun _ => ?_) (fun _ => ?_)) | (with_reducible refine aSel_split (fun _ => ?_) (fun _ => ?_)) | (with_reducible refine aGd_split (fun _ => ?_) (fun _ => ?_))))
  refine aLoop_of (fun st => ∃ (k : Nat) (v : Int), k ≤ l.length ∧ st = ⟨54, [(0, .sl 5 (l.map eEv)), (3, eI v), (4, eI (k : Int))], [], 0⟩) (fun st => l.length - slotN st 4) ⟨_, (weak_cut1 (by (first | ((simp only [envIn, tabIn, envLt, tabLt, AV.lt, ruW, ASt.get, aget, ↓reduceIte, reduceCtorEq, Nat.reduceLT, Nat.reduceEqDiff, eq_self]) <;> (repeat' apply And.intro) <;> first | (rw [wrapK (by omega)]; done) | (simp; done) | omega) | fail))), 0, 0, Nat.zero_le _, rfl⟩ ?_
  rintro _ ⟨k, v, hk, rfl⟩
  by_cases hlt : k < l.length
  · (repeat' (first | simp (maxSteps := 5000000) (implicitDefEqProofs := false) only [ruA, ruB, aEv, aTake, aLoad, aField, aIndex, aLen, aBin, bin2, ASt.get, aget, ASt.put, aResL, aOne, ↓reduceIte, reduceCtorEq, Nat.reduceLT, Nat.reduceEqDiff, Nat.reduceAdd, Nat.reduceLeDiff, eq_self, ne_eq, tyE_26, tyF_51_3, tyA_34, tyS_34, tyE_34, tyF_51_4, tyA_3, tyS_3, row_at, hlt] | (with_reducible refine aIf_split (fun _ => ?_) (fun _ => ?_)) | (with_reducible refine aSel_split (fun _ => ?_) (fun _ => ?_)) | (with_reducible refine aGd_split (fun _ => ?_) (fun _ => ?_))))
    all_goals first | with_reducible exact retV ⟨_, rfl⟩ | exact roundI (weak_cut1 (by (first | ((simp only [envIn, tabIn, envLt, tabLt, AV.lt, ruW, ASt.get, aget, ↓reduceIte, reduceCtorEq, Nat.reduceLT, Nat.reduceEqDiff, eq_self]) <;> (repeat' apply And.intro) <;> first | (rw [wrapK (by omega)]; done) | (simp; done) | omega) | fail))) ⟨k + 1, IntKind.i64.wrap (v + IntKind.i64.wrap (l[k].times * (l[k].sets.length : Int))), by omega, rfl⟩ (by simp only [slotN, ruW, ASt.get, aget, ↓reduceIte, Nat.reduceLT, eq_self]; omega)
  · (repeat' (first | simp (maxSteps := 5000000) (implicitDefEqProofs := false) only [ruA, ruB, aEv, aLen, aBin, bin2, ASt.get, aget, ASt.put, aResL, aOne, ↓reduceIte, reduceCtorEq, Nat.reduceLT, Nat.reduceEqDiff, eq_self, ne_eq, tyE_26, hlt] | (with_reducible refine aIf_split (fun _ => ?_) (fun _ => ?_)) | (with_reducible refine aSel_split (fun _ => ?_) (fun _ => ?_)) | (with_reducible refine aGd_split (fun _ => ?_) (fun _ => ?_))))
    exact retV ⟨_, rfl⟩
end
end Go.Proofs.YtbahakgmbceflaaGreat
