/-
  Parts of the proof: E10, EvOpen, ModOpen, CO, E11.
-/
import Derived.Test.YtfocnmkbnccilaaGreatRun14
import Derived.Test.YtfocnmkbnccilaaGreatProg
set_option linter.unusedVariables false
set_option linter.unusedSimpArgs false
namespace Go.Proofs.YtfocnmkbnccilaaGreat
section
open Go.RowKit
def exM0 : Mod := ⟨[], [], [], [], [], [], [], [], [], []⟩
def exS0 : St := ⟨[], 0, 0, [], []⟩
def idleMv : Mv := ⟨-1, -1, []⟩
theorem ex20_begin : beginM exM0 = exS0 := by
  simp [beginM, passM, startS, exM0, exS0]
theorem ex20_idle : idleM idleMv = true := by simp [idleM, idleMv]
theorem ex20_do : doM exM0 exS0 idleMv = (exS0, 0) := by
  have h1 : chkS exM0 exS0 = true := by
    simp [chkS, exM0, exS0, allN, ofB, firstI]
    decide
  have h2 : mayM exM0 exS0 idleMv = 0 := by
    unfold mayM
    rw [h1, ex20_idle]
    simp [anyM, anyN, exM0]
  unfold doM
  rw [if_pos h2, ex20_idle]
  rfl
theorem ex20_good : GoodM exM0 := ⟨⟨by simp [greatS, exM0], by simp [exM0], by simp [exM0], by simp [exM0]⟩, by simp [condOk, exM0], by simp [exM0], by simp [exM0], by simp [exM0], by simp [exM0]⟩
theorem ex20_runK0 : runK exM0 [] = 0 := rfl
theorem ex20_stN (l : List Mv) : stN exM0 l 0 = exS0 := ex20_begin
theorem ex20_err : errN exM0 [idleMv] 0 = 0 := by
  unfold errN
  rw [ex20_stN]
  show (doM exM0 exS0 idleMv).2 = 0
  rw [ex20_do]
theorem ex20_st1 : stN exM0 [idleMv] 1 = exS0 := by
  show (doM exM0 (stN exM0 [idleMv] 0) idleMv).1 = exS0
  rw [ex20_stN, ex20_do]
theorem ex20_runK1 : runK exM0 [idleMv] = 1 := goodN_eq _ (Nat.le_refl _) (fun i hi => by
  obtain rfl : i = 0 := by omega
  simp [okN, ex20_err]) (fun h => by simp at h)
theorem ex20_loops : loopsM exM0 [idleMv] 0 = 0 := by
  unfold loopsM
  rw [if_pos (by rw [ex20_runK1]; rfl)]
  have h1 : stN exM0 [idleMv] [idleMv].length = exS0 := ex20_st1
  rw [h1, Int.toNat_zero, ex20_stN, sameB_self]
  simp
theorem ex20_run0 : runSt exM0 [] = [exS0] := by
  unfold runSt
  rw [ex20_runK0]
  simp [ex20_stN]
theorem ex20_err0 : runErr exM0 [] = 0 := by
  unfold runErr
  rw [if_pos (by rw [ex20_runK0]; rfl)]
set_option maxRecDepth 100000 in
set_option maxHeartbeats 8000000 in
theorem awake20_A : ADet Tryz.prog 8 [] (val (.bool true)) := by
  refine adet_of_code mixedT Tryz.func8 rfl (by decide) Tryz.ntmps8 Tryz.results8 rfl (val_ok _) ?_
  have hA := all_A exM0 [] ex20_good ⟨by simp, by simp, by simp⟩
  rw [ex20_run0, ex20_err0] at hA
  have hA2 := hA.fits (args := [.agg [.c (.slice none 0 0), .c (.slice none 0 0), .c (.slice none 0 0), .c (.slice none 0 0), .c (.slice none 0 0), .c (.slice none 0 0), .c (.slice none 0 0), .c (.slice none 0 0), .c (.slice none 0 0), .c (.slice none 0 0)], .c (.slice none 0 0)]) ⟨.agg ⟨.nil 1, .nil 1, .nil 1, .nil 2, .nil 2, .nil 5, .nil 3, .nil 5, .nil 2, .nil 2, trivial⟩, .one (.nil 3), trivial⟩
  have hB := loops_A exM0 [idleMv] 0 ex20_good ⟨by simp, by simp [idleMv], by simp [idleMv]⟩
  rw [ex20_loops] at hB
  have hB2 := hB.fits (args := [.agg [.c (.slice none 0 0), .c (.slice none 0 0), .c (.slice none 0 0), .c (.slice none 0 0), .c (.slice none 0 0), .c (.slice none 0 0), .c (.slice none 0 0), .c (.slice none 0 0), .c (.slice none 0 0), .c (.slice none 0 0)], .sl 3 [[eI (-1), eI (-1), .c (.slice none 0 0)]], eI 0]) ⟨.agg ⟨.nil 1, .nil 1, .nil 1, .nil 2, .nil 2, .nil 5, .nil 3, .nil 5, .nil 2, .nil 2, trivial⟩, .one (.rows ⟨⟨.refl _, .refl _, .nil 1, trivial⟩, trivial⟩), .one (.refl _), trivial⟩
  have z1 : (((1 : Nat) : Int) == 1) = true := by decide
  have z2 : ((0 : Int) == 0) = true := by decide
  (repeat' (first | simp (maxSteps := 5000000) (implicitDefEqProofs := false) only [ruA, ruB, aEv, aLen, aBin, bin2, aExtract, ASt.get, aget, ASt.put, aBuildSlice, aBuild, aFill, oneParts, aCells, oneC, oneCL, treeC, treeL, aLit, Value.cells, Value.oneCell', envOf, ↓reduceIte, Nat.reduceLT, Nat.reduceEqDiff, Nat.reduceAdd, Nat.reduceMul, Nat.reduceLeDiff, eq_self, ne_eq, aBuildSlice1, frzs, ownIds, AV.shift, AV.shiftL, tyB_32, tyE_41, tyB_51, tyR_33, z1, z2] | (with_reducible refine aIf_split (fun _ => ?_) (fun _ => ?_)) | (with_reducible refine aSel_split (fun _ => ?_) (fun _ => ?_)) | (with_reducible refine aGd_split (fun _ => ?_) (fun _ => ?_)) | (with_reducible refine aDraw_quiet (by kernel_rfl) ?_) | ((with_reducible apply callT); exact (hA2); exact (.inl (by simp [roL, roA, treeL, treeC])))))
  refine ⟨rfl, ?_⟩
  refine callZ [0] (R := ⟨.c (.int .i64 0), [], 0⟩) ?_ ?_ ?_
  · simp (maxSteps := 5000000) (implicitDefEqProofs := false) only [ruB, ↓reduceIte, eq_self, dref, dref1, frzs, frz1, AV.frz, AV.frzL, frzEnv, frzAVs, frzAV, frzTab, AObj.frz]
    exact hB2
  · simp (maxSteps := 5000000) (implicitDefEqProofs := false) only [ruB, ↓reduceIte, eq_self, AV.frz, AV.frzL, frzAVs, frzAV]
    left
    simp [roL, roA, treeL, treeC]
  · (repeat' (first | simp (maxSteps := 5000000) (implicitDefEqProofs := false) only [ruA, ruB, aEv, aBin, bin2, ASt.get, aget, ASt.put, aResL, aOne, ↓reduceIte, Nat.reduceLT, Nat.reduceEqDiff, eq_self, frzs, frz1, AV.frz, AV.frzL, frzEnv, AV.shift, frzTab, AObj.frz, z2] | (with_reducible refine aIf_split (fun _ => ?_) (fun _ => ?_)) | (with_reducible refine aSel_split (fun _ => ?_) (fun _ => ?_)) | (with_reducible refine aGd_split (fun _ => ?_) (fun _ => ?_))))
set_option maxRecDepth 100000 in
set_option maxHeartbeats 8000000 in
theorem runLoops_A (m : Mod) (l : List Mv) (at_ : Int) (hc : condOk m) (hp : ∀ p ∈ m.stages, ok64 p.2) (hi : ∀ x ∈ m.inits, ok64 x) (hr : ∀ p ∈ m.roles, ok64 p.2) (ht : ∀ e ∈ m.events, ok64 e.times) (hn : ∀ v ∈ l, ∀ x ∈ v.vals, ok64 x) : ADet Tryz.prog 3 [.agg (eMod m), sMvs l, eI at_] (val (.bool true)) := by
  refine adet_of_code mixedT Tryz.func3 rfl (by decide) Tryz.ntmps3 Tryz.results3 rfl (val_ok _) ?_
  (repeat' (first | simp (maxSteps := 5000000) (implicitDefEqProofs := false) only [ruA, ruB, aEv, aTake, aLoad, ASt.get, aget, ASt.put, aBox, aCells, oneC, oneCL, envOf, ↓reduceIte, Nat.reduceLT, Nat.reduceEqDiff, Nat.reduceAdd, eq_self, tyA_32, tyS_32] | (with_reducible refine aIf_split (fun _ => ?_) (fun _ => ?_)) | (with_reducible refine aSel_split (fun _ => ?_) (fun _ => ?_)) | (with_reducible refine aGd_split (fun _ => ?_) (fun _ => ?_))))
  refine callPB (great12_A m) fun b hb => ?_
  cases b with
  | true =>
    (repeat' (first | simp (maxSteps := 5000000) (implicitDefEqProofs := false) only [ruA, ruB, aEv, ASt.get, aget, ASt.put, aResL, aOne, ↓reduceIte, Nat.reduceLT, Nat.reduceEqDiff, eq_self] | (with_reducible refine aIf_split (fun _ => ?_) (fun _ => ?_)) | (with_reducible refine aSel_split (fun _ => ?_) (fun _ => ?_)) | (with_reducible refine aGd_split (fun _ => ?_) (fun _ => ?_)) | (with_reducible refine aDraw_quiet (by kernel_rfl) ?_) | ((with_reducible apply callV (g := 8)); exact (awake20_A)) | ((with_reducible apply callD (g := 8)); exact (awake20_A))))
  | false =>
    have hf := hb rfl
    (repeat' (first | simp (maxSteps := 5000000) (implicitDefEqProofs := false) only [ruA, ruB, aEv, ASt.get, aget, ASt.put, ↓reduceIte, Nat.reduceLT, Nat.reduceEqDiff, eq_self] | (with_reducible refine aIf_split (fun _ => ?_) (fun _ => ?_)) | (with_reducible refine aSel_split (fun _ => ?_) (fun _ => ?_)) | (with_reducible refine aGd_split (fun _ => ?_) (fun _ => ?_))))
    refine callPB (great20_A l) fun b2 hb2 => ?_
    cases b2 with
    | true =>
      (repeat' (first | simp (maxSteps := 5000000) (implicitDefEqProofs := false) only [ruA, ruB, aEv, ASt.get, aget, ASt.put, aResL, aOne, ↓reduceIte, Nat.reduceLT, Nat.reduceEqDiff, eq_self] | (with_reducible refine aIf_split (fun _ => ?_) (fun _ => ?_)) | (with_reducible refine aSel_split (fun _ => ?_) (fun _ => ?_)) | (with_reducible refine aGd_split (fun _ => ?_) (fun _ => ?_)) | (with_reducible refine aDraw_quiet (by kernel_rfl) ?_) | ((with_reducible apply callV (g := 8)); exact (awake20_A)) | ((with_reducible apply callD (g := 8)); exact (awake20_A))))
    | false =>
      obtain ⟨hl1, hl2⟩ := hb2 rfl
      have hm : GoodM m := ⟨hf, hc, hp, hi, hr, ht⟩
      have hl : GoodMs l := ⟨hl1, hl2, hn⟩
      have hz : (loopsM m l at_ == loopsM m l at_) = true := by simp
      (repeat' (first | simp (maxSteps := 5000000) (implicitDefEqProofs := false) only [ruA, ruB, aEv, aTake, aLoad, aBin, bin2, ASt.get, aget, ASt.put, aResL, aOne, ↓reduceIte, Nat.reduceLT, Nat.reduceEqDiff, Nat.reduceAdd, eq_self, dref, dref1, tyA_32, tyS_32, tyK_37, hz] | (with_reducible refine aIf_split (fun _ => ?_) (fun _ => ?_)) | (with_reducible refine aSel_split (fun _ => ?_) (fun _ => ?_)) | (with_reducible refine aGd_split (fun _ => ?_) (fun _ => ?_)) | (with_reducible refine aDraw_quiet (by kernel_rfl) ?_) | ((with_reducible apply callV (g := 9)); exact (loops_A m l at_ hm hl)) | ((with_reducible apply callD (g := 9)); exact (loops_A m l at_ hm hl)) | ((with_reducible apply callV (g := 10)); exact (loopsR_A m l at_ hm hl)) | ((with_reducible apply callD (g := 10)); exact (loopsR_A m l at_ hm hl)) | ((with_reducible apply callV (g := 8)); exact (awake20_A)) | ((with_reducible apply callD (g := 8)); exact (awake20_A))))
set_option maxRecDepth 100000 in
set_option maxHeartbeats 8000000 in
theorem runAll_A (m : Mod) (l : List Mv) (hc : condOk m) (hp : ∀ p ∈ m.stages, ok64 p.2) (hi : ∀ x ∈ m.inits, ok64 x) (hr : ∀ p ∈ m.roles, ok64 p.2) (ht : ∀ e ∈ m.events, ok64 e.times) (hn : ∀ v ∈ l, ∀ x ∈ v.vals, ok64 x) : ADet Tryz.prog 5 [.agg (eMod m), sMvs l] (val (.bool true)) := by
  refine adet_of_code mixedT Tryz.func5 rfl (by decide) Tryz.ntmps5 Tryz.results5 rfl (val_ok _) ?_
  (repeat' (first | simp (maxSteps := 5000000) (implicitDefEqProofs := false) only [ruA, ruB, aEv, aTake, aLoad, ASt.get, aget, ASt.put, aBox, aCells, oneC, oneCL, envOf, ↓reduceIte, Nat.reduceLT, Nat.reduceEqDiff, Nat.reduceAdd, eq_self, tyA_32, tyS_32] | (with_reducible refine aIf_split (fun _ => ?_) (fun _ => ?_)) | (with_reducible refine aSel_split (fun _ => ?_) (fun _ => ?_)) | (with_reducible refine aGd_split (fun _ => ?_) (fun _ => ?_))))
  refine callPB (great12_A m) fun b hb => ?_
  cases b with
  | true =>
    (repeat' (first | simp (maxSteps := 5000000) (implicitDefEqProofs := false) only [ruA, ruB, aEv, ASt.get, aget, ASt.put, aResL, aOne, ↓reduceIte, Nat.reduceLT, Nat.reduceEqDiff, eq_self] | (with_reducible refine aIf_split (fun _ => ?_) (fun _ => ?_)) | (with_reducible refine aSel_split (fun _ => ?_) (fun _ => ?_)) | (with_reducible refine aGd_split (fun _ => ?_) (fun _ => ?_)) | (with_reducible refine aDraw_quiet (by kernel_rfl) ?_) | ((with_reducible apply callV (g := 8)); exact (awake20_A)) | ((with_reducible apply callD (g := 8)); exact (awake20_A))))
  | false =>
    have hf := hb rfl
    (repeat' (first | simp (maxSteps := 5000000) (implicitDefEqProofs := false) only [ruA, ruB, aEv, ASt.get, aget, ASt.put, ↓reduceIte, Nat.reduceLT, Nat.reduceEqDiff, eq_self] | (with_reducible refine aIf_split (fun _ => ?_) (fun _ => ?_)) | (with_reducible refine aSel_split (fun _ => ?_) (fun _ => ?_)) | (with_reducible refine aGd_split (fun _ => ?_) (fun _ => ?_))))
    refine callPB (great20_A l) fun b2 hb2 => ?_
    cases b2 with
    | true =>
      (repeat' (first | simp (maxSteps := 5000000) (implicitDefEqProofs := false) only [ruA, ruB, aEv, ASt.get, aget, ASt.put, aResL, aOne, ↓reduceIte, Nat.reduceLT, Nat.reduceEqDiff, eq_self] | (with_reducible refine aIf_split (fun _ => ?_) (fun _ => ?_)) | (with_reducible refine aSel_split (fun _ => ?_) (fun _ => ?_)) | (with_reducible refine aGd_split (fun _ => ?_) (fun _ => ?_)) | (with_reducible refine aDraw_quiet (by kernel_rfl) ?_) | ((with_reducible apply callV (g := 8)); exact (awake20_A)) | ((with_reducible apply callD (g := 8)); exact (awake20_A))))
    | false =>
      obtain ⟨hl1, hl2⟩ := hb2 rfl
      have hm : GoodM m := ⟨hf, hc, hp, hi, hr, ht⟩
      have hl : GoodMs l := ⟨hl1, hl2, hn⟩
      have h1 := runSt_len m l
      have h2 := goodN_le (okN m l) l.length
      have hrl : (runSt m l).length ≤ 42 := by unfold runK at h1; omega
      have hK : runK m l < (runSt m l).length := by omega
      have hat := runSt_at m l hK
      have hgk := good_stN m l hf hi hl (runK m l)
      have g1 := hgk.vals
      have g2 := hgk.did
      have g3 := hgk.cnt
      have hsm := sameS_A (stN m l (runK m l)) (stN m l (runK m l)) (by omega) (by omega) (by omega)
      rw [sameB_self] at hsm
      have ew : IntKind.i64.wrap ((((runSt m l).length : Nat) : Int) - 1) = ((runK m l : Nat) : Int) := by
        rw [h1]
        unfold runK at *
        rw [wrap_in (by omega) (by omega)]
        omega
      have z1 : (((runSt m l).length : Int) != ((runSt m l).length : Int)) = false := by simp
      have z2 : (runErr m l != runErr m l) = false := by simp
      have z3 : (((runK m l : Nat) : Int) != ((runK m l : Nat) : Int)) = false := by simp
      (repeat' (first | simp (maxSteps := 5000000) (implicitDefEqProofs := false) only [ruA, ruB, aEv, aTake, aLoad, aIndex, aLen, aBin, bin2, aUn, un1, aExtract, ASt.get, aget, ASt.put, aStore, aBox, aCells, oneC, oneCL, Value.cells, Value.oneCell', ↓reduceIte, Nat.reduceLT, Nat.reduceEqDiff, Nat.reduceAdd, eq_self, ne_eq, dref, dref1, AV.shift, AV.shiftL, tyA_32, tyS_32, tyZ_47, tyS_47, tyE_41, tyA_47, ew, row_at, hK, hat, z1, z2, z3] | (with_reducible refine aIf_split (fun _ => ?_) (fun _ => ?_)) | (with_reducible refine aSel_split (fun _ => ?_) (fun _ => ?_)) | (with_reducible refine aGd_split (fun _ => ?_) (fun _ => ?_)) | (with_reducible refine aDraw_quiet (by kernel_rfl) ?_) | ((with_reducible apply callT (g := 11)); exact (all_A m l hm hl); exact (.inl (by simp [roL, roA, treeL, treeC]))) | ((with_reducible apply callT (g := 14)); exact (allR_A m l hm hl); exact (.inl (by simp [roL, roA, treeL, treeC]))) | ((with_reducible apply callT (g := 15)); exact (last_A m l hm hl); exact (.inl (by simp [roL, roA, treeL, treeC]))) | ((with_reducible apply callV); exact (hsm)) | ((with_reducible apply callD); exact (hsm))))
      refine aLoop_of (fun st => ∃ k : Nat, k ≤ (runSt m l).length ∧ st = ⟨87, [(5, sSts (runSt m l)), (7, sSts (runSt m l)), (12, eI (k : Int))], [], 2⟩) (fun st => (runSt m l).length - slotN st 12) ⟨_, (weak_cut1 (by (first | ((simp only [envIn, tabIn, envLt, tabLt, AV.lt, ruW, ASt.get, aget, ↓reduceIte, Nat.reduceLT, Nat.reduceEqDiff, eq_self]) <;> (repeat' apply And.intro) <;> first | (rw [wrapK (by omega)]; done) | (simp; done) | omega) | fail))), 0, Nat.zero_le _, rfl⟩ ?_
      rintro _ ⟨k, hk, rfl⟩
      by_cases hk2 : k < (runSt m l).length
      · have hak := runSt_at m l hk2
        have hg := good_stN m l hf hi hl k
        have g1 := hg.vals
        have g2 := hg.did
        have g3 := hg.cnt
        have hsm := sameS_A (stN m l k) (stN m l k) (by omega) (by omega) (by omega)
        rw [sameB_self] at hsm
        (repeat' (first | simp (maxSteps := 5000000) (implicitDefEqProofs := false) only [ruA, ruB, aEv, aTake, aLoad, aIndex, aLen, aBin, bin2, aUn, un1, ASt.get, aget, ASt.put, ↓reduceIte, Nat.reduceLT, Nat.reduceEqDiff, Nat.reduceAdd, eq_self, ne_eq, dref, dref1, tyS_47, tyE_41, tyA_47, row_at, hk2, hak] | (with_reducible refine aIf_split (fun _ => ?_) (fun _ => ?_)) | (with_reducible refine aSel_split (fun _ => ?_) (fun _ => ?_)) | (with_reducible refine aGd_split (fun _ => ?_) (fun _ => ?_)) | (with_reducible refine aDraw_quiet (by kernel_rfl) ?_) | ((with_reducible apply callV); exact (hsm)) | ((with_reducible apply callD); exact (hsm))))
        exact roundI (weak_cut1 (by (first | ((simp only [envIn, tabIn, envLt, tabLt, AV.lt, ruW, ASt.get, aget, ↓reduceIte, Nat.reduceLT, Nat.reduceEqDiff, eq_self]) <;> (repeat' apply And.intro) <;> first | (rw [wrapK (by omega)]; done) | (simp; done) | omega) | fail))) ⟨k + 1, by omega, rfl⟩ (by simp only [slotN, ASt.get, aget, ↓reduceIte, Nat.reduceLT, Nat.reduceEqDiff, eq_self]; omega)
      · (repeat' (first | simp (maxSteps := 5000000) (implicitDefEqProofs := false) only [ruA, ruB, aEv, aLen, aBin, bin2, ASt.get, aget, ASt.put, aResL, aOne, ↓reduceIte, Nat.reduceLT, Nat.reduceEqDiff, eq_self, ne_eq, tyE_41, hk2] | (with_reducible refine aIf_split (fun _ => ?_) (fun _ => ?_)) | (with_reducible refine aSel_split (fun _ => ?_) (fun _ => ?_)) | (with_reducible refine aGd_split (fun _ => ?_) (fun _ => ?_)) | (with_reducible refine aDraw_quiet (by kernel_rfl) ?_) | ((with_reducible apply callV (g := 8)); exact (awake20_A)) | ((with_reducible apply callD (g := 8)); exact (awake20_A))))
theorem getD_take (l : List Mv) {k q : Nat} (h : k < q) : (l.take q).getD k mvNil = l.getD k mvNil := by
  rw [List.getD_eq_getElem?_getD, List.getD_eq_getElem?_getD, List.getElem?_take, if_pos h]
theorem stN_take (m : Mod) (l : List Mv) (q : Nat) : ∀ k, k ≤ q → stN m (l.take q) k = stN m l k
  | 0, _ => rfl
  | k + 1, h => by
    rw [stN, stN, stN_take m l q k (by omega), getD_take l (by omega)]
theorem errN_take (m : Mod) (l : List Mv) {k q : Nat} (h : k < q) : errN m (l.take q) k = errN m l k := by
  rw [errN, errN, stN_take m l q k (by omega), getD_take l h]
theorem okN_take (m : Mod) (l : List Mv) {k q : Nat} (h : k < q) : okN m (l.take q) k = okN m l k := by
  unfold okN
  rw [errN_take m l h]
theorem runK_take (m : Mod) (l : List Mv) {q : Nat} (h : q ≤ l.length) : runK m (l.take q) = min q (runK m l) := by
  have h2 := goodN_le (okN m l) l.length
  have h3 : (l.take q).length = q := by simp; omega
  unfold runK
  rw [h3]
  refine goodN_eq _ (by omega) (fun i hi => ?_) fun hk => ?_
  · rw [okN_take m l (by omega)]
    exact goodN_all (okN m l) l.length i (by omega)
  · have h4 : min q (goodN (okN m l) l.length) = goodN (okN m l) l.length := by omega
    rw [h4] at hk ⊢
    rw [okN_take m l (by omega)]
    exact goodN_stop (okN m l) l.length (by omega)
theorem runErr_take (m : Mod) (l : List Mv) {q : Nat} (h : q ≤ l.length) : runErr m (l.take q) = 0 ∨ runErr m (l.take q) = runErr m l := by
  have h2 := goodN_le (okN m l) l.length
  have h3 : (l.take q).length = q := by simp; omega
  unfold runErr
  rw [h3, runK_take m l h]
  by_cases hq : q ≤ runK m l
  · left
    rw [if_pos (by omega)]
  · right
    unfold runK at *
    rw [if_neg (by omega), if_neg (by omega), errN_take m l (by omega)]
    congr 1
    omega
theorem wrap_u64 (a : Int) : IntKind.u64.wrap a = a % 18446744073709551616 := rfl
theorem rem_in (a : Int) (n : Nat) : ∃ q : Nat, q ≤ n ∧ IntKind.i64.wrap ((IntKind.u64.wrap a).tmod ((n : Int) + 1)) = IntKind.i64.wrap (q : Int) := by
  have h0 : 0 ≤ IntKind.u64.wrap a := by rw [wrap_u64]; omega
  have h1 := Int.tmod_nonneg ((n : Int) + 1) h0
  have h2 := Int.tmod_lt_of_pos (IntKind.u64.wrap a) (b := (n : Int) + 1) (by omega)
  refine ⟨((IntKind.u64.wrap a).tmod ((n : Int) + 1)).toNat, by omega, ?_⟩
  rw [Int.toNat_of_nonneg h1]
set_option maxRecDepth 100000 in
set_option maxHeartbeats 8000000 in
theorem runGoes_A (m : Mod) (l : List Mv) (at_ : Int) (hc : condOk m) (hp : ∀ p ∈ m.stages, ok64 p.2) (hi : ∀ x ∈ m.inits, ok64 x) (hr : ∀ p ∈ m.roles, ok64 p.2) (ht : ∀ e ∈ m.events, ok64 e.times) (hn : ∀ v ∈ l, ∀ x ∈ v.vals, ok64 x) : ADet Tryz.prog 4 [.agg (eMod m), sMvs l, eI at_] (val (.bool true)) := by
  refine adet_of_code mixedT Tryz.func4 rfl (by decide) Tryz.ntmps4 Tryz.results4 rfl (val_ok _) ?_
  (repeat' (first | simp (maxSteps := 5000000) (implicitDefEqProofs := false) only [ruA, ruB, aEv, aTake, aLoad, ASt.get, aget, ASt.put, aBox, aCells, oneC, oneCL, envOf, ↓reduceIte, Nat.reduceLT, Nat.reduceEqDiff, Nat.reduceAdd, eq_self, tyA_32, tyS_32] | (with_reducible refine aIf_split (fun _ => ?_) (fun _ => ?_)) | (with_reducible refine aSel_split (fun _ => ?_) (fun _ => ?_)) | (with_reducible refine aGd_split (fun _ => ?_) (fun _ => ?_))))
  refine callPB (great12_A m) fun b hb => ?_
  cases b with
  | true =>
    (repeat' (first | simp (maxSteps := 5000000) (implicitDefEqProofs := false) only [ruA, ruB, aEv, ASt.get, aget, ASt.put, aResL, aOne, ↓reduceIte, Nat.reduceLT, Nat.reduceEqDiff, eq_self] | (with_reducible refine aIf_split (fun _ => ?_) (fun _ => ?_)) | (with_reducible refine aSel_split (fun _ => ?_) (fun _ => ?_)) | (with_reducible refine aGd_split (fun _ => ?_) (fun _ => ?_)) | (with_reducible refine aDraw_quiet (by kernel_rfl) ?_) | ((with_reducible apply callV (g := 8)); exact (awake20_A)) | ((with_reducible apply callD (g := 8)); exact (awake20_A))))
  | false =>
    have hf := hb rfl
    (repeat' (first | simp (maxSteps := 5000000) (implicitDefEqProofs := false) only [ruA, ruB, aEv, ASt.get, aget, ASt.put, ↓reduceIte, Nat.reduceLT, Nat.reduceEqDiff, eq_self] | (with_reducible refine aIf_split (fun _ => ?_) (fun _ => ?_)) | (with_reducible refine aSel_split (fun _ => ?_) (fun _ => ?_)) | (with_reducible refine aGd_split (fun _ => ?_) (fun _ => ?_))))
    refine callPB (great20_A l) fun b2 hb2 => ?_
    cases b2 with
    | true =>
      (repeat' (first | simp (maxSteps := 5000000) (implicitDefEqProofs := false) only [ruA, ruB, aEv, ASt.get, aget, ASt.put, aResL, aOne, ↓reduceIte, Nat.reduceLT, Nat.reduceEqDiff, eq_self] | (with_reducible refine aIf_split (fun _ => ?_) (fun _ => ?_)) | (with_reducible refine aSel_split (fun _ => ?_) (fun _ => ?_)) | (with_reducible refine aGd_split (fun _ => ?_) (fun _ => ?_)) | (with_reducible refine aDraw_quiet (by kernel_rfl) ?_) | ((with_reducible apply callV (g := 8)); exact (awake20_A)) | ((with_reducible apply callD (g := 8)); exact (awake20_A))))
    | false =>
      obtain ⟨hl1, hl2⟩ := hb2 rfl
      have hm : GoodM m := ⟨hf, hc, hp, hi, hr, ht⟩
      have hl : GoodMs l := ⟨hl1, hl2, hn⟩
      obtain ⟨q, hq, hqe⟩ := rem_in at_ l.length
      have hql : GoodMs (l.take q) := ⟨by simp; omega, fun v hv => hl2 v (List.mem_of_mem_take hv), fun v hv => hn v (List.mem_of_mem_take hv)⟩
      have h1 := runSt_len m l
      have h2 := goodN_le (okN m l) l.length
      have hrl : (runSt m l).length ≤ 42 := by unfold runK at h1; omega
      have h3 := runSt_len m (l.take q)
      rw [runK_take m l hq] at h3
      have eq64 : IntKind.i64.wrap (q : Int) = q := wrap_in (by omega) (by omega)
      rw [eq64] at hqe
      have eu : IntKind.u64.wrap (((l.length : Nat) : Int) + 1) = ((l.length : Nat) : Int) + 1 := by rw [wrap_u64]; omega
      have ei : IntKind.i64.wrap (((l.length : Nat) : Int) + 1) = ((l.length : Nat) : Int) + 1 := wrap_in (by omega) (by omega)
      have en : (((l.length : Nat) : Int) + 1 = 0) = False := by simp; omega
      have hmt : (l.map eMv).take q = (l.take q).map eMv := (List.map_take ..).symm
      have z1 : decide ((runSt m l).length < (runSt m (l.take q)).length) = false := by simp only [decide_eq_false_iff_not]; omega
      have eq1 : IntKind.i64.wrap ((q : Int) + 1) = (q : Int) + 1 := wrap_in (by omega) (by omega)
      have z2 : (((runSt m (l.take q)).length : Int) != (min ((q : Int) + 1) ((runSt m l).length : Int))) = false := by simp only [bne_eq_false_iff_eq]; omega
      have z3 : (((runSt m l).length : Int) == 0) = false := by simp only [beq_eq_false_iff_ne]; omega
      have z4 : (runErr m (l.take q) != 0) = false ∨ ((runErr m (l.take q) != 0) = true ∧ (runErr m (l.take q) != runErr m l) = false) := by
        rcases runErr_take m l hq with h5 | h5
        · left
          simp [h5]
        · by_cases h6 : runErr m l = 0
          · left
            simp [h5, h6]
          · right
            simp [h5, h6]
      have loop1 : ∀ k, k < (runSt m (l.take q)).length → k < (runSt m l).length ∧ ∃ (h : k < (runSt m l).length) (h' : k < (runSt m (l.take q)).length), (runSt m l)[k] = stN m l k ∧ (runSt m (l.take q))[k] = stN m l k := fun k hk => by
        refine ⟨by omega, by omega, hk, runSt_at m l _, ?_⟩
        rw [runSt_at m (l.take q) hk, stN_take m l q k (by omega)]
      (repeat' (first | simp (maxSteps := 5000000) (implicitDefEqProofs := false) only [ruA, ruB, aEv, aTake, aLoad, aLen, aBin, bin2, aConv, ASt.get, aget, ASt.put, ↓reduceIte, Nat.reduceLT, Nat.reduceEqDiff, Nat.reduceAdd, eq_self, ne_eq, tyA_32, tyS_32, tyI_3, tyI_40, tyE_33, ei, en, eu, hqe] | (with_reducible refine aIf_split (fun _ => ?_) (fun _ => ?_)) | (with_reducible refine aSel_split (fun _ => ?_) (fun _ => ?_)) | (with_reducible refine aGd_split (fun _ => ?_) (fun _ => ?_))))
      refine callT (all_A m l hm hl) (.inl (by simp [roL, roA, treeL, treeC])) ?_
      (repeat' (first | simp (maxSteps := 5000000) (implicitDefEqProofs := false) only [ruA, ruB, aEv, aExtract, ASt.get, aget, ASt.put, ↓reduceIte, Nat.reduceLT, Nat.reduceEqDiff, Nat.reduceAdd, eq_self, AV.shift, AV.shiftL] | (with_reducible refine aIf_split (fun _ => ?_) (fun _ => ?_)) | (with_reducible refine aSel_split (fun _ => ?_) (fun _ => ?_)) | (with_reducible refine aGd_split (fun _ => ?_) (fun _ => ?_))))
      refine aDraw_held [] [0, 1, 2, 3] (.exec 4 (.take 5 (.take 6 (.take 7 (.exec 8 (.exec 9 .done)))))) (by kernel_rfl) (by simp [ATab.get_cons]) ?_
      rcases z4 with z4 | ⟨z4, z5⟩
      all_goals first
        | (have z6 := z5; (repeat' (first | simp (maxSteps := 5000000) (implicitDefEqProofs := false) only [ruA, ruB, aEv, aTake, aLoad, aLen, aBin, bin2, aExtract, ASt.get, aget, ASt.put, ↓reduceIte, Nat.reduceLT, Nat.reduceEqDiff, Nat.reduceAdd, eq_self, ne_eq, aTakes, aTakeE, aFrom, AV.shift, AV.shiftL, aSlice, aSliceR, aBd, aMM, tyA_32, tyS_32, tyE_33, tyE_41, hq, hmt, z1, z2, z3, eq1, z4, z5] | (with_reducible refine aIf_split (fun _ => ?_) (fun _ => ?_)) | (with_reducible refine aSel_split (fun _ => ?_) (fun _ => ?_)) | (with_reducible refine aGd_split (fun _ => ?_) (fun _ => ?_)) | (with_reducible refine aDraw_quiet (by kernel_rfl) ?_) | ((with_reducible apply callT (g := 11)); exact (all_A m (l.take q) hm hql); exact (.inl (by simp [roL, roA, treeL, treeC]))))))
        | (repeat' (first | simp (maxSteps := 5000000) (implicitDefEqProofs := false) only [ruA, ruB, aEv, aTake, aLoad, aLen, aBin, bin2, aExtract, ASt.get, aget, ASt.put, ↓reduceIte, Nat.reduceLT, Nat.reduceEqDiff, Nat.reduceAdd, eq_self, ne_eq, aTakes, aTakeE, aFrom, AV.shift, AV.shiftL, aSlice, aSliceR, aBd, aMM, tyA_32, tyS_32, tyE_33, tyE_41, hq, hmt, z1, z2, z3, eq1, z4] | (with_reducible refine aIf_split (fun _ => ?_) (fun _ => ?_)) | (with_reducible refine aSel_split (fun _ => ?_) (fun _ => ?_)) | (with_reducible refine aGd_split (fun _ => ?_) (fun _ => ?_)) | (with_reducible refine aDraw_quiet (by kernel_rfl) ?_) | ((with_reducible apply callT (g := 11)); exact (all_A m (l.take q) hm hql); exact (.inl (by simp [roL, roA, treeL, treeC])))))
      all_goals
        refine aLoop_of (fun st => ∃ k : Nat, k ≤ (runSt m (l.take q)).length ∧ st = ⟨123, [(1, sMvs l), (3, .op 0 0 0), (8, sSts (runSt m l)), (10, sSts (runSt m (l.take q))), (12, eI (k : Int))], [(0, some (.box 32 (eMod m)))], 1⟩) (fun st => (runSt m (l.take q)).length - slotN st 12) ⟨_, (weak_cut1 (by (first | ((simp only [envIn, tabIn, envLt, tabLt, AObj.lt, AV.lt, AV.ltL, ruW, ASt.get, aget, ↓reduceIte, Nat.reduceLT, Nat.reduceEqDiff, eq_self]) <;> (repeat' apply And.intro) <;> first | (rw [wrapK (by omega)]; done) | (simp; done) | omega) | fail))), 0, Nat.zero_le _, rfl⟩ ?_
        rintro _ ⟨k, hk, rfl⟩
        by_cases hk2 : k < (runSt m (l.take q)).length
        · obtain ⟨hk3, _, _, hak, haq⟩ := loop1 k hk2
          have hg := good_stN m l hf hi hl k
          have g1 := hg.vals
          have g2 := hg.did
          have g3 := hg.cnt
          have hsm := sameS_A (stN m l k) (stN m l k) (by omega) (by omega) (by omega)
          rw [sameB_self] at hsm
          (repeat' (first | simp (maxSteps := 5000000) (implicitDefEqProofs := false) only [ruA, ruB, aEv, aTake, aLoad, aIndex, aLen, aBin, bin2, aUn, un1, ASt.get, aget, ASt.put, ↓reduceIte, Nat.reduceLT, Nat.reduceEqDiff, Nat.reduceAdd, eq_self, ne_eq, dref, dref1, tyE_41, tyA_47, tyS_47, row_at, hk2, hk3, hak, haq] | (with_reducible refine aIf_split (fun _ => ?_) (fun _ => ?_)) | (with_reducible refine aSel_split (fun _ => ?_) (fun _ => ?_)) | (with_reducible refine aGd_split (fun _ => ?_) (fun _ => ?_)) | (with_reducible refine aDraw_quiet (by kernel_rfl) ?_) | ((with_reducible apply callV); exact (hsm)) | ((with_reducible apply callD); exact (hsm))))
          exact roundI (weak_cut1 (by (first | ((simp only [envIn, tabIn, envLt, tabLt, AObj.lt, AV.lt, AV.ltL, ruW, ASt.get, aget, ↓reduceIte, Nat.reduceLT, Nat.reduceEqDiff, eq_self]) <;> (repeat' apply And.intro) <;> first | (rw [wrapK (by omega)]; done) | (simp; done) | omega) | fail))) ⟨k + 1, by omega, rfl⟩ (by simp only [slotN, ASt.get, aget, ↓reduceIte, Nat.reduceLT, Nat.reduceEqDiff, eq_self]; omega)
        · (repeat' (first | simp (maxSteps := 5000000) (implicitDefEqProofs := false) only [ruA, ruB, aEv, aLen, aBin, bin2, ASt.get, aget, ASt.put, ↓reduceIte, Nat.reduceLT, Nat.reduceEqDiff, eq_self, ne_eq, tyE_41, hk2] | (with_reducible refine aIf_split (fun _ => ?_) (fun _ => ?_)) | (with_reducible refine aSel_split (fun _ => ?_) (fun _ => ?_)) | (with_reducible refine aGd_split (fun _ => ?_) (fun _ => ?_)) | (with_reducible refine aDraw_quiet (by kernel_rfl) ?_)))
          refine aLoop_of (fun st => ∃ k : Nat, k + 1 ≤ (runSt m l).length ∧ st = ⟨123, [(1, sMvs l), (3, .op 0 0 0), (8, sSts (runSt m l)), (13, eI ((k + 1 : Nat) : Int))], [(0, some (.box 32 (eMod m)))], 1⟩) (fun st => (runSt m l).length - slotN st 13) ⟨_, (weak_cut1 (by (first | ((simp only [envIn, tabIn, envLt, tabLt, AObj.lt, AV.lt, AV.ltL, ruW, ASt.get, aget, ↓reduceIte, Nat.reduceLT, Nat.reduceEqDiff, Nat.reduceAdd, eq_self]) <;> (repeat' apply And.intro) <;> first | (rw [wrapK (by omega)]; done) | (simp; done) | omega) | fail))), 0, by omega, rfl⟩ ?_
          rintro _ ⟨k, hk, rfl⟩
          by_cases hk2 : k + 1 < (runSt m l).length
          · have hkl : k < l.length := by unfold runK at h1; omega
            have hk3 : k < (runSt m l).length := by omega
            have hok := goodN_all (okN m l) l.length k (by unfold runK at h1; omega)
            have hek : errN m l k = 0 := by simpa [okN] using hok
            have hgs := good_stN m l hf hi hl k
            have hd := do19_A m (stN m l k) l[k] hf hgs.fit (by have := hl2 _ (List.getElem_mem hkl); omega) hp hr hgs.ok ht
            have hlk : l.getD k mvNil = l[k] := by rw [List.getD_eq_getElem?_getD, List.getElem?_eq_getElem hkl]; rfl
            have h5 : (doM m (stN m l k) l[k]).1 = stN m l (k + 1) := by rw [stN, hlk]
            have h6 : (doM m (stN m l k) l[k]).2 = errN m l k := by rw [errN, hlk]
            rw [h5, h6, hek] at hd
            have hak := runSt_at m l hk3
            have hak2 := runSt_at m l hk2
            have hg := good_stN m l hf hi hl (k + 1)
            have g1 := hg.vals
            have g2 := hg.did
            have g3 := hg.cnt
            have hsm := sameS_A (stN m l (k + 1)) (stN m l (k + 1)) (by omega) (by omega) (by omega)
            rw [sameB_self] at hsm
            have ek : IntKind.i64.wrap (((k + 1 : Nat) : Int) - 1) = (k : Int) := by rw [wrap_in (by omega) (by omega)]; omega
            have ez : ((0 : Int) != 0) = false := by decide
            (repeat' (first | simp (maxSteps := 5000000) (implicitDefEqProofs := false) only [ruA, ruB, aEv, aLen, aBin, bin2, ASt.get, aget, ASt.put, ↓reduceIte, Nat.reduceLT, Nat.reduceEqDiff, eq_self, ne_eq, tyE_41, hk2] | (with_reducible refine aIf_split (fun _ => ?_) (fun _ => ?_)) | (with_reducible refine aSel_split (fun _ => ?_) (fun _ => ?_)) | (with_reducible refine aGd_split (fun _ => ?_) (fun _ => ?_))))
            refine aDraw_held [] [0, 1, 2, 3, 4, 5, 6, 7, 8, 9, 10] (.two 11 (.take 12 (.take 13 (.take 14 (.exec 15 (.exec 16 (.exec 17 .done)))))) 15 (.exec 11 (.take 12 (.take 13 (.take 14 (.exec 16 (.exec 17 .done))))))) (by kernel_rfl) (by simp [ATab.get_cons]) ?_
            (repeat' (first | simp (maxSteps := 5000000) (implicitDefEqProofs := false) only [ruA, ruB, aEv, aTake, aLoad, aIndex, aBin, bin2, aUn, un1, aExtract, ASt.get, aget, ASt.put, aBox, aCells, oneC, oneCL, Value.cells, Value.oneCell', ↓reduceIte, Nat.reduceLT, Nat.reduceEqDiff, Nat.reduceAdd, eq_self, dref, dref1, aExecS, aStoreB, aTakes, aTakeE, aFrom, AV.shift, AV.shiftL, aMay, tyA_32, tyS_32, tyE_33, tyE_41, tyA_47, tyS_47, tyA_51, tyS_51, tyZ_47, row_at, hk2, hk3, hkl, hak, hak2, ek, ez] | (with_reducible refine aIf_split (fun _ => ?_) (fun _ => ?_)) | (with_reducible refine aSel_split (fun _ => ?_) (fun _ => ?_)) | (with_reducible refine aGd_split (fun _ => ?_) (fun _ => ?_)) | (with_reducible refine aDraw_quiet (by kernel_rfl) ?_) | ((with_reducible apply callT); exact (hd); exact (.inl (by simp [roL, roA, treeL, treeC]))) | ((with_reducible apply callV); exact (hsm)) | ((with_reducible apply callD); exact (hsm)) | (with_reducible apply And.intro)))
            all_goals exact roundI (weak_ren1 [0] ⟨(by decide), (by (first | ((simp only [envInR, tabInR, envLt, tabLt, AObj.lt, AV.lt, AV.ltL, AV.ren, AV.renL, AObj.ren, List.getD_cons_zero, List.length_cons, List.length_nil, ruW, ASt.get, aget, ↓reduceIte, reduceCtorEq, Nat.reduceLT, Nat.reduceEqDiff, Nat.reduceAdd, eq_self]) <;> (repeat' apply And.intro) <;> first | (rw [wrapK (by omega)]; done) | (simp; done) | omega) | fail))⟩) ⟨k + 1, by omega, rfl⟩ (by simp only [slotN, ASt.get, aget, ↓reduceIte, Nat.reduceLT, Nat.reduceEqDiff, eq_self]; omega)
          · (repeat' (first | simp (maxSteps := 5000000) (implicitDefEqProofs := false) only [ruA, ruB, aEv, aLen, aBin, bin2, ASt.get, aget, ASt.put, aResL, aOne, ↓reduceIte, Nat.reduceLT, Nat.reduceEqDiff, eq_self, ne_eq, tyE_41, hk2] | (with_reducible refine aIf_split (fun _ => ?_) (fun _ => ?_)) | (with_reducible refine aSel_split (fun _ => ?_) (fun _ => ?_)) | (with_reducible refine aGd_split (fun _ => ?_) (fun _ => ?_)) | (with_reducible refine aDraw_quiet (by kernel_rfl) ?_) | ((with_reducible apply callV (g := 8)); exact (awake20_A)) | ((with_reducible apply callD (g := 8)); exact (awake20_A))))
end
section
open Go.RowKit

theorem opensInt : Opens Tryz.prog 3 (intR .i64) := opens_int Tryz.underlying3
theorem opensI64 : Opens Tryz.prog 2 (intR .i64) := opens_int Tryz.underlying2
def valR : Rep (Int × Int × Unit) := pairR (intR .i64) (pairR (intR .i64) nilR)
theorem opensVal : Opens Tryz.prog 115 valR :=
  opens_struct Tryz.underlying115 (by kernel_rfl) (opensF_cons (by kernel_rfl) (by kernel_rfl) opensInt (opensF_cons (by kernel_rfl) (by kernel_rfl) opensI64 (opensF_nil _ _)))
def instP : Rep (Int × (Int × Int × Unit) × (Int × Int × Unit) × Int × Int × Unit) := pairR (intR .i64) (pairR valR (pairR valR (pairR (intR .i64) (pairR (intR .i64) nilR))))
theorem opensInstP : Opens Tryz.prog 117 instP :=
  opens_struct Tryz.underlying117 (by kernel_rfl) (opensF_cons (by kernel_rfl) (by kernel_rfl) opensInt (opensF_cons (by kernel_rfl) (by kernel_rfl) opensVal (opensF_cons (by kernel_rfl) (by kernel_rfl) opensVal (opensF_cons (by kernel_rfl) (by kernel_rfl) opensInt (opensF_cons (by kernel_rfl) (by kernel_rfl) opensInt (opensF_nil _ _))))))
theorem opensInst : Opens Tryz.prog 117 instR := opens_map opensInstP (fun p => ⟨p.1, p.2.1.1, p.2.1.2.1, p.2.2.1.1, p.2.2.1.2.1, p.2.2.2.1, p.2.2.2.2.1⟩) (by
  rintro w S cs ⟨op, ⟨la, ln, _⟩, ⟨ra, rn, _⟩, n, u, _⟩ h
  obtain ⟨c0, q0, e0, ⟨a0, h0⟩, h'⟩ := pair_inv h
  obtain ⟨c1, q1, e1, h1, h''⟩ := pair_inv h'
  obtain ⟨c2, q2, e2, h2, h3⟩ := pair_inv h''
  obtain ⟨c3, q3, e3, ⟨a3, h3'⟩, h4⟩ := pair_inv h3
  obtain ⟨c4, q4, e4, ⟨a4, h4'⟩, h5⟩ := pair_inv h4
  have h5 : q4 = [] := h5
  obtain ⟨d0, k0, f0, ⟨b0, g0⟩, m0⟩ := pair_inv h1
  obtain ⟨d1, k1, f1, ⟨b1, g1⟩, m1⟩ := pair_inv m0
  have m1 : k1 = [] := m1
  obtain ⟨d2, k2, f2, ⟨b2, g2⟩, m2⟩ := pair_inv h2
  obtain ⟨d3, k3, f3, ⟨b3, g3⟩, m3⟩ := pair_inv m2
  have m3 : k3 = [] := m3
  refine ⟨?_, wf_i64 h0, wf_i64 g0, wf_i64 g1, wf_i64 g2, wf_i64 g3, wf_i64 h3', wf_i64 h4'⟩
  rw [e0, e1, e2, e3, e4, h5, a0, f0, f1, m1, b0, b1, f2, f3, m3, b2, b3, a3, a4]
  rfl)
theorem opensInsts : Opens Tryz.prog 55 (sliceR instR) := opens_slice Tryz.underlying55 (by kernel_rfl) (by decide) opensInst
theorem opensI64s : Opens Tryz.prog 23 (sliceR (intR .i64)) := opens_slice Tryz.underlying23 (by kernel_rfl) (by decide) opensI64
theorem opensIntsE : Opens Tryz.prog 45 (sliceR (intR .i64)) := opens_slice Tryz.underlying45 (by kernel_rfl) (by decide) opensInt
end
section
open Go.RowKit

theorem opensStr : Opens Tryz.prog 9 strR := opens_string Tryz.underlying9
theorem opensBoolM : Opens Tryz.prog 4 boolR := opens_bool Tryz.underlying4
theorem opensNameInt {t : TypeId} (h : Opens Tryz.prog t (pairR strR (pairR (intR .i64) nilR))) : Opens Tryz.prog t nameIntR := opens_map h (fun p => (p.1, p.2.1)) (by
  rintro w S cs ⟨s, n, _⟩ h
  obtain ⟨c0, q0, e0, ⟨a0, h0⟩, h⟩ := pair_inv h
  obtain ⟨c1, q1, e1, ⟨a1, h1⟩, h⟩ := pair_inv h
  have h : q1 = [] := h
  exact ⟨by rw [e0, e1, a0, a1, h]; rfl, h0, wf_i64 h1⟩)
theorem opensStage : Opens Tryz.prog 88 nameIntR := opensNameInt (opens_struct Tryz.underlying88 (by kernel_rfl) (opensF_cons (by kernel_rfl) (by kernel_rfl) opensStr (opensF_cons (by kernel_rfl) (by kernel_rfl) opensInt (opensF_nil _ _))))
theorem opensRole : Opens Tryz.prog 98 nameIntR := opensNameInt (opens_struct Tryz.underlying98 (by kernel_rfl) (opensF_cons (by kernel_rfl) (by kernel_rfl) opensStr (opensF_cons (by kernel_rfl) (by kernel_rfl) opensInt (opensF_nil _ _))))
theorem opensSod : Opens Tryz.prog 83 intIntR := opens_map (r := pairR (intR .i64) (pairR (intR .i64) nilR)) (opens_struct Tryz.underlying83 (by kernel_rfl) (opensF_cons (by kernel_rfl) (by kernel_rfl) opensInt (opensF_cons (by kernel_rfl) (by kernel_rfl) opensInt (opensF_nil _ _)))) (fun p => (p.1, p.2.1)) (by
  rintro w S cs ⟨s, n, _⟩ h
  obtain ⟨c0, q0, e0, ⟨a0, h0⟩, h⟩ := pair_inv h
  obtain ⟨c1, q1, e1, ⟨a1, h1⟩, h⟩ := pair_inv h
  have h : q1 = [] := h
  exact ⟨by rw [e0, e1, a0, a1, h]; rfl, wf_i64 h0, wf_i64 h1⟩)
theorem opensSentry : Opens Tryz.prog 77 sentryR := opens_map (r := pairR boolR (pairR (intR .i64) nilR)) (opens_struct Tryz.underlying77 (by kernel_rfl) (opensF_cons (by kernel_rfl) (by kernel_rfl) opensBoolM (opensF_cons (by kernel_rfl) (by kernel_rfl) opensInt (opensF_nil _ _)))) (fun p => (p.1, p.2.1)) (by
  rintro w S cs ⟨s, n, _⟩ h
  obtain ⟨c0, q0, e0, a0, h⟩ := pair_inv h
  have a0 : c0 = [.bool s] := a0
  obtain ⟨c1, q1, e1, ⟨a1, h1⟩, h⟩ := pair_inv h
  have h : q1 = [] := h
  exact ⟨by rw [e0, e1, a0, a1, h]; rfl, wf_i64 h1⟩)
theorem opensGuard : Opens Tryz.prog 57 gdR := opens_map (r := pairR (intR .i64) (pairR (intR .i64) (pairR (sliceR instR) nilR))) (opens_struct Tryz.underlying57 (by kernel_rfl) (opensF_cons (by kernel_rfl) (by kernel_rfl) opensInt (opensF_cons (by kernel_rfl) (by kernel_rfl) opensInt (opensF_cons (by kernel_rfl) (by kernel_rfl) opensInsts (opensF_nil _ _))))) (fun p => ⟨p.1, p.2.1, p.2.2.1⟩) (by
  rintro w S cs ⟨s, n, l, _⟩ h
  obtain ⟨c0, q0, e0, ⟨a0, h0⟩, h⟩ := pair_inv h
  obtain ⟨c1, q1, e1, ⟨a1, h1⟩, h⟩ := pair_inv h
  obtain ⟨c2, q2, e2, h2, h⟩ := pair_inv h
  have h : q2 = [] := h
  obtain ⟨cv, rfl, h2⟩ := one_inv (r := sliceR instR) rfl h2
  exact ⟨cv, by rw [e0, e1, e2, a0, a1, h]; rfl, h2, wf_i64 h0, wf_i64 h1⟩)
theorem opensMile : Opens Tryz.prog 59 mlR := opens_map (r := pairR strR (pairR (intR .i64) (pairR (intR .i64) (pairR (sliceR instR) (pairR boolR nilR))))) (opens_struct Tryz.underlying59 (by kernel_rfl) (opensF_cons (by kernel_rfl) (by kernel_rfl) opensStr (opensF_cons (by kernel_rfl) (by kernel_rfl) opensInt (opensF_cons (by kernel_rfl) (by kernel_rfl) opensInt (opensF_cons (by kernel_rfl) (by kernel_rfl) opensInsts (opensF_cons (by kernel_rfl) (by kernel_rfl) opensBoolM (opensF_nil _ _))))))) (fun p => ⟨p.1, p.2.1, p.2.2.1, p.2.2.2.1, p.2.2.2.2.1⟩) (by
  rintro w S cs ⟨nm, s, n, l, b, _⟩ h
  obtain ⟨c9, q9, e9, ⟨a9, h9⟩, h⟩ := pair_inv h
  obtain ⟨c0, q0, e0, ⟨a0, h0⟩, h⟩ := pair_inv h
  obtain ⟨c1, q1, e1, ⟨a1, h1⟩, h⟩ := pair_inv h
  obtain ⟨c2, q2, e2, h2, h⟩ := pair_inv h
  obtain ⟨c3, q3, e3, a3, h⟩ := pair_inv h
  have a3 : c3 = [.bool b] := a3
  have h : q3 = [] := h
  obtain ⟨cv, rfl, h2⟩ := one_inv (r := sliceR instR) rfl h2
  exact ⟨cv, by rw [e9, e0, e1, e2, e3, a9, a0, a1, a3, h]; rfl, h2, wf_i64 h0, wf_i64 h1, h9⟩)
theorem opensEvent : Opens Tryz.prog 61 evR := opens_map (r := pairR strR (pairR (intR .i64) (pairR (intR .i64) (pairR (sliceR (intR .i64)) (pairR (intR .i64) nilR))))) (opens_struct Tryz.underlying61 (by kernel_rfl) (opensF_cons (by kernel_rfl) (by kernel_rfl) opensStr (opensF_cons (by kernel_rfl) (by kernel_rfl) opensInt (opensF_cons (by kernel_rfl) (by kernel_rfl) opensInt (opensF_cons (by kernel_rfl) (by kernel_rfl) opensIntsE (opensF_cons (by kernel_rfl) (by kernel_rfl) opensInt (opensF_nil _ _))))))) (fun p => ⟨p.1, p.2.1, p.2.2.1, p.2.2.2.1, p.2.2.2.2.1⟩) (by
  rintro w S cs ⟨nm, s, n, l, b, _⟩ h
  obtain ⟨c9, q9, e9, ⟨a9, h9⟩, h⟩ := pair_inv h
  obtain ⟨c0, q0, e0, ⟨a0, h0⟩, h⟩ := pair_inv h
  obtain ⟨c1, q1, e1, ⟨a1, h1⟩, h⟩ := pair_inv h
  obtain ⟨c2, q2, e2, h2, h⟩ := pair_inv h
  obtain ⟨c3, q3, e3, ⟨a3, h3⟩, h⟩ := pair_inv h
  have h : q3 = [] := h
  obtain ⟨cv, rfl, h2⟩ := one_inv (r := sliceR (intR .i64)) rfl h2
  exact ⟨cv, by rw [e9, e0, e1, e2, e3, a9, a0, a1, a3, h]; rfl, h2, wf_i64 h0, wf_i64 h1, wf_i64 h3, h9⟩)
abbrev modP := pairR (sliceR strR) (pairR (sliceR (intR .i64)) (pairR (sliceR strR) (pairR (sliceR nameIntR) (pairR (sliceR nameIntR) (pairR (sliceR evR) (pairR (sliceR gdR) (pairR (sliceR mlR) (pairR (sliceR intIntR) (pairR (sliceR sentryR) nilR)))))))))
set_option maxRecDepth 100000 in
theorem opensModP : Opens Tryz.prog 32 modP := opens_struct Tryz.underlying32 (by kernel_rfl) (opensF_cons (by kernel_rfl) (by kernel_rfl) (opens_slice Tryz.underlying22 (by kernel_rfl) (by decide) opensStr) (opensF_cons (by kernel_rfl) (by kernel_rfl) (opens_slice Tryz.underlying23 (by kernel_rfl) (by decide) opensI64) (opensF_cons (by kernel_rfl) (by kernel_rfl) (opens_slice Tryz.underlying22 (by kernel_rfl) (by decide) opensStr) (opensF_cons (by kernel_rfl) (by kernel_rfl) (opens_slice Tryz.underlying24 (by kernel_rfl) (by decide) opensRole) (opensF_cons (by kernel_rfl) (by kernel_rfl) (opens_slice Tryz.underlying25 (by kernel_rfl) (by decide) opensStage) (opensF_cons (by kernel_rfl) (by kernel_rfl) (opens_slice Tryz.underlying26 (by kernel_rfl) (by decide) opensEvent) (opensF_cons (by kernel_rfl) (by kernel_rfl) (opens_slice Tryz.underlying27 (by kernel_rfl) (by decide) opensGuard) (opensF_cons (by kernel_rfl) (by kernel_rfl) (opens_slice Tryz.underlying28 (by kernel_rfl) (by decide) opensMile) (opensF_cons (by kernel_rfl) (by kernel_rfl) (opens_slice Tryz.underlying29 (by kernel_rfl) (by decide) opensSod) (opensF_cons (by kernel_rfl) (by kernel_rfl) (opens_slice Tryz.underlying30 (by kernel_rfl) (by decide) opensSentry) (opensF_nil _ _)))))))))))
theorem open_mod {H : Type} {enc : TypeId × Value → H} {w : World} {fuel : Nat} {cs : Array Value} {x : DataW H × List MemPlace} (h : DataW.trod enc Tryz.prog w 0 (fun _ => true) true fuel 32 cs.toList = some x) :
    ∃ (V : MV) (m : Mod), cs = V.cells ∧ ModI w V m := by
  obtain ⟨⟨attrs, inits, users, roles, stages, events, guards, miles, sods, order, _⟩, h⟩ := opensModP H enc w fuel _ _ h
  obtain ⟨c0, q0, e0, h0, h⟩ := pair_inv h
  obtain ⟨c1, q1, e1, h1, h⟩ := pair_inv h
  obtain ⟨c2, q2, e2, h2, h⟩ := pair_inv h
  obtain ⟨c3, q3, e3, h3, h⟩ := pair_inv h
  obtain ⟨c4, q4, e4, h4, h⟩ := pair_inv h
  obtain ⟨c5, q5, e5, h5, h⟩ := pair_inv h
  obtain ⟨c6, q6, e6, h6, h⟩ := pair_inv h
  obtain ⟨c7, q7, e7, h7, h⟩ := pair_inv h
  obtain ⟨c8, q8, e8, h8, h⟩ := pair_inv h
  obtain ⟨c9, q9, e9, h9, h⟩ := pair_inv h
  obtain rfl : q9 = [] := h
  obtain ⟨v0, rfl, h0⟩ := one_inv (r := sliceR strR) rfl h0
  obtain ⟨v1, rfl, h1⟩ := one_inv (r := sliceR (intR .i64)) rfl h1
  obtain ⟨v2, rfl, h2⟩ := one_inv (r := sliceR strR) rfl h2
  obtain ⟨v3, rfl, h3⟩ := one_inv (r := sliceR nameIntR) rfl h3
  obtain ⟨v4, rfl, h4⟩ := one_inv (r := sliceR nameIntR) rfl h4
  obtain ⟨v5, rfl, h5⟩ := one_inv (r := sliceR evR) rfl h5
  obtain ⟨v6, rfl, h6⟩ := one_inv (r := sliceR gdR) rfl h6
  obtain ⟨v7, rfl, h7⟩ := one_inv (r := sliceR mlR) rfl h7
  obtain ⟨v8, rfl, h8⟩ := one_inv (r := sliceR intIntR) rfl h8
  obtain ⟨v9, rfl, h9⟩ := one_inv (r := sliceR sentryR) rfl h9
  refine ⟨⟨v0, v1, v2, v3, v4, v5, v6, v7, v8, v9⟩, ⟨attrs, inits, users, roles, stages, events, guards, miles, sods, order⟩, ?_, ⟨h0, h1, h2, h3, h4, h5, h6, h7, h8, h9⟩⟩
  apply Array.ext'
  rw [e0, e1, e2, e3, e4, e5, e6, e7, e8, e9]
  rfl
end
section
open Go.RowKit
def Into {α : Type} (r : Rep α) (f : α → List AV) : Prop := ∀ (w : World) (S : Nat → Prop) (cs : List Value) (x : α), r.at_ w S cs x → (f x).length = r.size ∧ ∀ (j : Nat) (u : Value) (av : AV), cs[j]? = some u → (f x)[j]? = some av → RT w S u av ∧ u.oneCell' = true
theorem Into.slice {α : Type} {r : Rep α} {f : α → List AV} (h : Into r f) {w : World} {S : Nat → Prop} {v : Value} {l : List α} (hv : (sliceR r).one w S v l) : RT w S v (.sl r.size (l.map f)) := by
  obtain ⟨A, c, rfl, h1, h2⟩ := slice_form hv
  by_cases h0 : 0 < l.length
  · obtain ⟨b, o, rfl, hb, hrow⟩ := slice_some hv h0
    classical
    let cs : Nat → List Value := fun i => if hi : i < l.length then (hrow i hi).choose else []
    have hcs : ∀ i (hi : i < l.length), (∀ (j : Nat) (u : Value), (cs i)[j]? = some u → w.cell? ⟨b, o + i * r.size + j, none⟩ = some u) ∧ r.at_ w S (cs i) l[i] := fun i hi => by
      have := (hrow i hi).choose_spec
      simpa [cs, hi] using this
    have key : ∀ (i j : Nat) (row : List AV) (av : AV), (l.map f)[i]? = some row → row[j]? = some av → ∃ hi : i < l.length, (cs i)[j]? = some ((cs i).getD j undef) ∧ RT w S ((cs i).getD j undef) av ∧ ((cs i).getD j undef).oneCell' = true := fun i j row av h3 h4 => by
      have hi : i < l.length := by
        have := (List.getElem?_eq_some_iff.1 h3).1
        simpa using this
      have hf : row = f l[i] := by
        rw [List.getElem?_map, List.getElem?_eq_getElem hi] at h3
        exact (Option.some.inj h3).symm
      subst hf
      obtain ⟨h5, h6⟩ := h w S (cs i) l[i] (hcs i hi).2
      have hj : j < (cs i).length := by
        rw [r.len (hcs i hi).2, ← h5]
        exact (List.getElem?_eq_some_iff.1 h4).1
      have e : (cs i)[j]? = some ((cs i).getD j undef) := by
        rw [List.getD_eq_getElem?_getD, List.getElem?_eq_getElem hj]
        rfl
      exact ⟨hi, e, h6 j _ av e h4⟩
    refine .sl _ _ c r.size _ b o (fun i j => (cs i).getD j undef) (by simp) h1 h2 (fun _ => ⟨rfl, hb⟩) (fun row hr => ?_) (fun _ i j row av h3 h4 => ?_) (fun i j row av h3 h4 => (key i j row av h3 h4).elim fun _ h => h.2.2) (fun i j row av h3 h4 => (key i j row av h3 h4).elim fun _ h => h.2.1)
    · obtain ⟨i, hi, rfl⟩ := List.getElem_of_mem hr
      have hi : i < l.length := by simpa using hi
      simp only [List.getElem_map]
      exact (h w S (cs i) l[i] (hcs i hi).2).1
    · obtain ⟨hi, h5, _⟩ := key i j row av h3 h4
      exact (hcs i hi).1 j _ h5
  · have : l = [] := List.length_eq_zero_iff.1 (by omega)
    subst this
    exact .sl A 0 c r.size [] 0 0 (fun _ _ => undef) rfl h1 h2 (fun h => by omega) (by simp) (fun h => by omega) (by simp) (by simp)
theorem into_cells {α : Type} {r : Rep α} {f : α → List AV} (g : α → List Value) (hg : ∀ w S cs x, r.at_ w S cs x → cs = g x) (hs : ∀ x, (g x).length = r.size) (ho : ∀ x u, u ∈ g x → u.oneCell' = true) (hf : ∀ x, f x = (g x).map .c) : Into r f := fun w S cs x h => by
  obtain rfl := hg w S cs x h
  rw [hf]
  refine ⟨by simp [hs], fun j u av h1 h2 => ?_⟩
  rw [List.getElem?_map, h1] at h2
  cases h2
  exact ⟨.c u, ho x u (List.mem_of_getElem? h1)⟩
theorem into_str : Into strR (fun s => [eS s]) := into_cells (fun s => [.string s]) (fun w S cs x h => h.1) (fun x => rfl) (fun x u h => by simp at h; subst h; rfl) (fun x => rfl)
theorem into_int : Into (intR .i64) (fun n => [eI n]) := into_cells (fun n => [.int .i64 n]) (fun w S cs x h => h.1) (fun x => rfl) (fun x u h => by simp at h; subst h; rfl) (fun x => rfl)
theorem into_ni : Into nameIntR eNI := into_cells (fun p => [.string p.1, .int .i64 p.2]) (fun w S cs x h => h.1) (fun x => rfl) (fun x u h => by simp at h; rcases h with rfl | rfl <;> rfl) (fun x => rfl)
theorem into_ii : Into intIntR eII := into_cells (fun p => [.int .i64 p.1, .int .i64 p.2]) (fun w S cs x h => h.1) (fun x => rfl) (fun x u h => by simp at h; rcases h with rfl | rfl <;> rfl) (fun x => rfl)
theorem into_bi : Into sentryR eBI := into_cells (fun p => [.bool p.1, .int .i64 p.2]) (fun w S cs x h => h.1) (fun x => rfl) (fun x u h => by simp at h; rcases h with rfl | rfl <;> rfl) (fun x => rfl)
theorem into_inst : Into instR eInst := into_cells Inst.cells (fun w S cs x h => h.1) (fun x => rfl) (fun x u h => by simp [Inst.cells] at h; rcases h with rfl | rfl | rfl | rfl | rfl | rfl | rfl <;> rfl) (fun x => rfl)
theorem slice_one {α : Type} {r : Rep α} {w : World} {S : Nat → Prop} {v : Value} {l : List α} (h : (sliceR r).one w S v l) : v.oneCell' = true := by
  obtain ⟨A, c, rfl, _⟩ := slice_form h
  rfl
theorem into_gd : Into gdR eGd := fun w S cs x ⟨cv, h1, h2, _⟩ => by
  subst h1
  refine ⟨rfl, fun j u av h3 h4 => ?_⟩
  match j with
  | 0 => simp at h3 h4; subst h3; subst h4; exact ⟨.c _, rfl⟩
  | 1 => simp at h3 h4; subst h3; subst h4; exact ⟨.c _, rfl⟩
  | 2 => simp at h3 h4; subst h3; subst h4; exact ⟨into_inst.slice h2, slice_one h2⟩
  | j + 3 => simp at h3
theorem into_ml : Into mlR eMl := fun w S cs x ⟨cv, h1, h2, _⟩ => by
  subst h1
  refine ⟨rfl, fun j u av h3 h4 => ?_⟩
  match j with
  | 0 => simp at h3 h4; subst h3; subst h4; exact ⟨.c _, rfl⟩
  | 1 => simp at h3 h4; subst h3; subst h4; exact ⟨.c _, rfl⟩
  | 2 => simp at h3 h4; subst h3; subst h4; exact ⟨.c _, rfl⟩
  | 3 => simp at h3 h4; subst h3; subst h4; exact ⟨into_inst.slice h2, slice_one h2⟩
  | 4 => simp at h3 h4; subst h3; subst h4; exact ⟨.c _, rfl⟩
  | j + 5 => simp at h3
theorem into_ev : Into evR eEv := fun w S cs x ⟨cv, h1, h2, _⟩ => by
  subst h1
  refine ⟨rfl, fun j u av h3 h4 => ?_⟩
  match j with
  | 0 => simp at h3 h4; subst h3; subst h4; exact ⟨.c _, rfl⟩
  | 1 => simp at h3 h4; subst h3; subst h4; exact ⟨.c _, rfl⟩
  | 2 => simp at h3 h4; subst h3; subst h4; exact ⟨.c _, rfl⟩
  | 3 => simp at h3 h4; subst h3; subst h4; exact ⟨into_int.slice h2, slice_one h2⟩
  | 4 => simp at h3 h4; subst h3; subst h4; exact ⟨.c _, rfl⟩
  | j + 5 => simp at h3
theorem rt_mod {w : World} {V : MV} {m : Mod} (h : ModI w V m) : RT w (fun b => b < w.heap.size) (.agg V.cells) (.agg (eMod m)) := by
  refine .agg _ _ rfl fun j u av h1 h2 => ?_
  match j with
  | 0 => simp [MV.cells] at h1 h2; subst h1; subst h2; exact into_str.slice h.attrs
  | 1 => simp [MV.cells] at h1 h2; subst h1; subst h2; exact into_int.slice h.inits
  | 2 => simp [MV.cells] at h1 h2; subst h1; subst h2; exact into_str.slice h.users
  | 3 => simp [MV.cells] at h1 h2; subst h1; subst h2; exact into_ni.slice h.roles
  | 4 => simp [MV.cells] at h1 h2; subst h1; subst h2; exact into_ni.slice h.stages
  | 5 => simp [MV.cells] at h1 h2; subst h1; subst h2; exact into_ev.slice h.events
  | 6 => simp [MV.cells] at h1 h2; subst h1; subst h2; exact into_gd.slice h.guards
  | 7 => simp [MV.cells] at h1 h2; subst h1; subst h2; exact into_ml.slice h.miles
  | 8 => simp [MV.cells] at h1 h2; subst h1; subst h2; exact into_ii.slice h.sods
  | 9 => simp [MV.cells] at h1 h2; subst h1; subst h2; exact into_bi.slice h.order
  | j + 10 => simp at h2
/-- every thing of a slice is one that may be -/
theorem slice_all {α : Type} {r : Rep α} {w : World} {S : Nat → Prop} {v : Value} {l : List α} {Q : α → Prop} (h : (sliceR r).one w S v l) (hq : ∀ cs x, r.at_ w S cs x → Q x) : ∀ x ∈ l, Q x := fun x hx => by
  obtain ⟨i, hi, rfl⟩ := List.getElem_of_mem hx
  obtain ⟨A, c, rfl, _⟩ := slice_form h
  obtain ⟨b, o, rfl, _, hrow⟩ := slice_some h (by omega)
  obtain ⟨cs, _, h2⟩ := hrow i hi
  exact hq cs _ h2
theorem mod_conds {w : World} {V : MV} {m : Mod} (h : ModI w V m) : condOk m :=
  ⟨slice_all h.guards fun cs x ⟨cv, _, h2, _⟩ => slice_all h2 fun cs y h3 => h3.2, slice_all h.miles fun cs x ⟨cv, _, h2, _⟩ => slice_all h2 fun cs y h3 => h3.2⟩
theorem mod_pars {w : World} {V : MV} {m : Mod} (h : ModI w V m) : ∀ p ∈ m.stages, ok64 p.2 := slice_all h.stages fun cs x h2 => h2.2.2
end
section
open Go.ChangeShapes Go.WideShapes Go.ChangeAt Go.RowKit
def mvR : Rep Mv where
  size := 3
  at_ := fun w S cs g => ∃ cv, cs = [.int .i64 g.event, .int .i64 g.user, cv] ∧ (sliceR (intR .i64)).one w S cv g.vals ∧ ok64 g.event ∧ ok64 g.user
  len := fun ⟨_, h, _⟩ => by rw [h]; rfl
  keep := fun ⟨cv, h, h2, h3⟩ hk => ⟨cv, h, slice_keep h2 hk, h3⟩
  mono := fun ⟨cv, h, h2, h3⟩ hB => ⟨cv, h, slice_mono h2 hB, h3⟩
theorem opensMv : Opens Tryz.prog 51 mvR := opens_map (r := pairR (intR .i64) (pairR (intR .i64) (pairR (sliceR (intR .i64)) nilR))) (opens_struct Tryz.underlying51 (by kernel_rfl) (opensF_cons (by kernel_rfl) (by kernel_rfl) opensInt (opensF_cons (by kernel_rfl) (by kernel_rfl) opensInt (opensF_cons (by kernel_rfl) (by kernel_rfl) opensI64s (opensF_nil _ _))))) (fun p => ⟨p.1, p.2.1, p.2.2.1⟩) (by
  rintro w S cs ⟨s, n, l, _⟩ h
  obtain ⟨c0, q0, e0, ⟨a0, h0⟩, h⟩ := pair_inv h
  obtain ⟨c1, q1, e1, ⟨a1, h1⟩, h⟩ := pair_inv h
  obtain ⟨c2, q2, e2, h2, h⟩ := pair_inv h
  have h : q2 = [] := h
  obtain ⟨cv, rfl, h2⟩ := one_inv (r := sliceR (intR .i64)) rfl h2
  exact ⟨cv, by rw [e0, e1, e2, a0, a1, h]; rfl, h2, wf_i64 h0, wf_i64 h1⟩)
theorem opensMvs : Opens Tryz.prog 33 (sliceR mvR) := opens_slice Tryz.underlying33 (by kernel_rfl) (by decide) opensMv
theorem into_mv : Into mvR eMv := fun w S cs x ⟨cv, h1, h2, _⟩ => by
  subst h1
  refine ⟨rfl, fun j u av h3 h4 => ?_⟩
  match j with
  | 0 => simp at h3 h4; subst h3; subst h4; exact ⟨.c _, rfl⟩
  | 1 => simp at h3 h4; subst h3; subst h4; exact ⟨.c _, rfl⟩
  | 2 => simp at h3 h4; subst h3; subst h4; exact ⟨into_int.slice h2, slice_one h2⟩
  | j + 3 => simp at h3
theorem mvs_nums {w : World} {S : Nat → Prop} {v : Value} {l : List Mv} (h : (sliceR mvR).one w S v l) : ∀ x ∈ l, ∀ n ∈ x.vals, ok64 n :=
  slice_all h fun cs x ⟨cv, _, h2, _⟩ => slice_all h2 fun cs y h3 => wf_i64 h3.2
theorem mod_roles {w : World} {V : MV} {m : Mod} (h : ModI w V m) : ∀ p ∈ m.roles, ok64 p.2 := slice_all h.roles fun cs x h2 => h2.2.2
theorem mod_inits {w : World} {V : MV} {m : Mod} (h : ModI w V m) : ∀ x ∈ m.inits, ok64 x := slice_all h.inits fun cs x h2 => wf_i64 h2.2
theorem mod_times {w : World} {V : MV} {m : Mod} (h : ModI w V m) : ∀ e ∈ m.events, ok64 e.times := slice_all h.events fun cs x ⟨cv, _, h2⟩ => h2.2.2.2.1
end
end Go.Proofs.YtfocnmkbnccilaaGreat
