/-
  Parts of the proof: SoF, Y1, Y2, Y3, SoH, SoI, SoJ.
-/
import Derived.Test.YtodbhccfajgekaaGreatDoorNtx9
set_option linter.unusedVariables false
set_option linter.unusedSimpArgs false
namespace Go.Proofs.YtodbhccfajgekaaGreatDoor
section
open Go.RowKit
theorem Tg.cross {l : List Pt} (h : Tg l) (k : Nat) : ∀ x ∈ l.take k, ∀ y ∈ l.drop k, x.t < y.t := by
  have : Tg (l.take k ++ l.drop k) := by rw [List.take_append_drop]; exact h
  exact (List.pairwise_append.1 this).2.2
/-- two blocks become one -/
theorem merge_two (g : FuncId) (hg : CmpOk g) (P l R : List Pt) (k a m b : Nat) (ht : Tg l) (hk : 0 < k) (hk2 : k < l.length) (ha : a = P.length) (hm : m = a + k) (hb : b = a + l.length) (hl : P.length + l.length + R.length ≤ 1000000) :
    AMut Tryz.prog 102 95 3 ((P ++ (srt (l.take k) ++ srt (l.drop k)) ++ R).map encP) [eI (a : Int), eI (m : Int), eI (b : Int), .fn g []] ((P ++ srt l ++ R).map encP) := by
  have l1 : (srt (l.take k)).length = k := by rw [srt_len, List.length_take]; omega
  have l2 : (srt (l.drop k)).length = l.length - k := by rw [srt_len, List.length_drop]
  have h := symMerge_M g hg _ P (srt (l.take k)) (srt (l.drop k)) R a m b rfl ha (by omega) (by omega) (by omega) (by omega) (srt_sorted (ht.take k).dt) (srt_sorted (ht.drop k).dt) (fun x hx y hy => ht.cross k x (srt_mem.1 hx) y (srt_mem.1 hy)) (by omega)
  rw [srt_srt (by rw [List.take_append_drop]; exact ht.dt), List.take_append_drop] at h
  rw [← List.append_assoc P]
  exact h
set_option maxRecDepth 100000 in
set_option maxHeartbeats 8000000 in
theorem stable_M (g : FuncId) (hg : CmpOk g) (l : List Pt) (n : Nat) (hn : n = l.length) (ht : Tg l) (hl : n ≤ 900000) : AMut Tryz.prog 76 95 3 (l.map encP) [eI (n : Int), .fn g []] ((srt l).map encP) := by
  refine amut_of_code mixedT Tryz.func76 rfl (by decide) Tryz.ntmps76 Tryz.results76 rfl (by kernel_rfl) ?_
  (repeat' (first | simp (maxSteps := 5000000) (implicitDefEqProofs := false) only [ruA, ruB, aEv, ASt.get, aget, ASt.put, envOf, ↓reduceIte, Nat.reduceLT, Nat.reduceEqDiff, Nat.reduceAdd, eq_self] | (with_reducible refine aIf_split (fun _ => ?_) (fun _ => ?_)) | (with_reducible refine aSel_split (fun _ => ?_) (fun _ => ?_)) | (with_reducible refine aGd_split (fun _ => ?_) (fun _ => ?_))))
  refine aLoop_of (fun st => ∃ (j : Nat) (P : List Pt), P.length = 20 * j ∧ 20 * j ≤ n ∧ G 20 l = P ++ G 20 (l.drop (20 * j)) ∧ st = ⟨63, [(0, .osl 0), (1, eI (n : Int)), (2, .fn g []), (6, eI 20), (7, eI ((20 * j : Nat) : Int)), (8, eI ((20 * j + 20 : Nat) : Int))], [(0, some (.row 95 3 ((P ++ l.drop (20 * j)).map encP)))], 1⟩) (fun st => n + 20 - slotN st 8) ⟨_, (weak_cut1 (by (first | ((simp only [envIn, tabIn, envLt, tabLt, AObj.lt, AV.lt, AV.ltL, ruW, ASt.get, aget, ↓reduceIte, reduceCtorEq, Nat.reduceLT, Nat.reduceEqDiff, Nat.reduceAdd, eq_self, Nat.mul_zero, List.drop_zero]) <;> (repeat' apply And.intro) <;> first | (rw [wrapK (by omega)]; done) | (simp; done) | omega) | fail))), 0, [], rfl, Nat.zero_le _, rfl, rfl⟩ ?_
  rintro _ ⟨j, P, hP, hjn, hG, rfl⟩
  have hdl : (l.drop (20 * j)).length = n - 20 * j := by rw [List.length_drop]; omega
  have htd := ht.drop (20 * j)
  by_cases hlt : 20 * j + 20 ≤ n
  · have d1 : decide (((20 * j + 20 : Nat) : Int) ≤ (n : Int)) = true := by simp only [decide_eq_true_eq]; omega
    have d1' : decide (20 * j + 20 ≤ n) = true := by simpa using hlt
    have e1 : IntKind.i64.wrap (((20 * j + 20 : Nat) : Int) + 20) = ((20 * (j + 1) + 20 : Nat) : Int) := by rw [wrap_in (by omega) (by omega)]; omega
    have e2 : 20 * j + 20 = 20 * (j + 1) := by omega
    have hd : (l.drop (20 * j)).drop 20 = l.drop (20 * (j + 1)) := by rw [List.drop_drop]; congr 1
    have hGn : G 20 l = (P ++ srt ((l.drop (20 * j)).take 20)) ++ G 20 (l.drop (20 * (j + 1))) := by rw [hG, G_ge (by decide) (by omega), hd, List.append_assoc]
    have hlt2 : ((l.drop (20 * j)).take 20).length = 20 := by rw [List.length_take]; omega
    have hM := insertion_M g hg P ((l.drop (20 * j)).take 20) (l.drop (20 * (j + 1))) (20 * j) (20 * j + 20) hP.symm (by omega) (htd.take 20) (by simp only [List.length_append, hlt2, List.length_drop]; omega)
    rw [show P ++ (l.drop (20 * j)).take 20 ++ l.drop (20 * (j + 1)) = P ++ l.drop (20 * j) by rw [← hd, List.append_assoc, List.take_append_drop]] at hM
    have hPl : (P ++ srt ((l.drop (20 * j)).take 20)).length = 20 * (j + 1) := by rw [List.length_append, srt_len]; omega
    generalize P ++ srt ((l.drop (20 * j)).take 20) = P2 at *
    (repeat' (first | simp (maxSteps := 5000000) (implicitDefEqProofs := false) only [ruA, ruB, aEv, aBin, bin2, ASt.get, aget, ASt.put, ↓reduceIte, reduceCtorEq, Nat.reduceLT, Nat.reduceEqDiff, eq_self, d1'] | (with_reducible refine aIf_split (fun _ => ?_) (fun _ => ?_)) | (with_reducible refine aSel_split (fun _ => ?_) (fun _ => ?_)) | (with_reducible refine aGd_split (fun _ => ?_) (fun _ => ?_))))
    refine callM hM (by simp [ATab.get_cons]) (by simp [treeML, treeM, treeL, treeC]) ?_
    (repeat' (first | simp (maxSteps := 5000000) (implicitDefEqProofs := false) only [ruA, ruB, aEv, aBin, bin2, ASt.get, aget, ASt.put, ↓reduceIte, Nat.reduceLT, Nat.reduceEqDiff, eq_self, e1] | (with_reducible refine aIf_split (fun _ => ?_) (fun _ => ?_)) | (with_reducible refine aSel_split (fun _ => ?_) (fun _ => ?_)) | (with_reducible refine aGd_split (fun _ => ?_) (fun _ => ?_))))
    exact roundI (weak_cut1 (by (first | ((simp only [envIn, tabIn, envLt, tabLt, AObj.lt, AV.lt, AV.ltL, ruW, ASt.get, aget, ↓reduceIte, reduceCtorEq, Nat.reduceLT, Nat.reduceEqDiff, eq_self, e2]) <;> (repeat' apply And.intro) <;> first | (rw [wrapK (by omega)]; done) | (simp; done) | omega) | fail))) ⟨j + 1, P2, hPl, by omega, hGn, rfl⟩ (by simp only [slotN, ruW, ASt.get, aget, ↓reduceIte, Nat.reduceLT, Nat.reduceEqDiff, eq_self]; omega)
  · have d1 : decide (((20 * j + 20 : Nat) : Int) ≤ (n : Int)) = false := by simp only [decide_eq_false_iff_not]; omega
    have d1' : decide (20 * j + 20 ≤ n) = false := by simp only [decide_eq_false_iff_not]; omega
    have hM := insertion_M g hg P (l.drop (20 * j)) [] (20 * j) n hP.symm (by omega) htd (by simp only [List.length_append, List.length_nil]; omega)
    have hGe : P ++ srt (l.drop (20 * j)) ++ [] = G 20 l := by rw [hG, List.append_nil, G_lt (bs := 20) (by decide) (by omega)]
    rw [List.append_nil, hGe] at hM
    (repeat' (first | simp (maxSteps := 5000000) (implicitDefEqProofs := false) only [ruA, ruB, aEv, aBin, bin2, ASt.get, aget, ASt.put, ↓reduceIte, reduceCtorEq, Nat.reduceLT, Nat.reduceEqDiff, eq_self, d1'] | (with_reducible refine aIf_split (fun _ => ?_) (fun _ => ?_)) | (with_reducible refine aSel_split (fun _ => ?_) (fun _ => ?_)) | (with_reducible refine aGd_split (fun _ => ?_) (fun _ => ?_))))
    refine callM hM (by simp [ATab.get_cons]) (by simp [treeML, treeM, treeL, treeC]) ?_
    clear hM hGe hG hdl htd d1 d1' hP hjn hlt
    (repeat' (first | simp (maxSteps := 5000000) (implicitDefEqProofs := false) only [ruA, ASt.put] | (with_reducible refine aIf_split (fun _ => ?_) (fun _ => ?_)) | (with_reducible refine aSel_split (fun _ => ?_) (fun _ => ?_)) | (with_reducible refine aGd_split (fun _ => ?_) (fun _ => ?_))))
    have h20 : ((20 : Nat) : Int) = 20 := rfl
    refine aLoop_of (fun st => ∃ bs : Nat, 20 ≤ bs ∧ bs ≤ 40 + 2 * n ∧ st = ⟨63, [(0, .osl 0), (1, eI (n : Int)), (2, .fn g []), (6, eI (bs : Int))], [(0, some (.row 95 3 ((G bs l).map encP)))], 1⟩) (fun st => n - slotN st 6) ⟨_, (weak_cut1 (by (first | ((simp only [envIn, tabIn, envLt, tabLt, AObj.lt, AV.lt, AV.ltL, ruW, ASt.get, aget, ↓reduceIte, reduceCtorEq, Nat.reduceLT, Nat.reduceEqDiff, eq_self, h20]) <;> (repeat' apply And.intro) <;> first | (rw [wrapK (by omega)]; done) | (simp; done) | omega) | fail))), 20, Nat.le_refl _, by omega, rfl⟩ ?_
    clear h20
    rintro _ ⟨bs, hbs, hbs2, rfl⟩
    by_cases hlt : bs < n
    · have d1 : decide ((bs : Int) < (n : Int)) = true := by simp only [decide_eq_true_eq]; omega
      have d1' : decide (bs < n) = true := by simpa using hlt
      have e1 : IntKind.i64.wrap (2 * (bs : Int)) = ((2 * bs : Nat) : Int) := by rw [wrap_in (by omega) (by omega)]; omega
      have e1' : IntKind.i64.wrap ((bs : Int) * 2) = ((2 * bs : Nat) : Int) := by rw [wrap_in (by omega) (by omega)]; omega
      obtain ⟨D, hD⟩ : ∃ D, 2 * bs = D := ⟨_, rfl⟩
      rw [hD] at e1 e1'
      (repeat' (first | simp (maxSteps := 5000000) (implicitDefEqProofs := false) only [ruA, ruB, aEv, aBin, bin2, ASt.get, aget, ASt.put, ↓reduceIte, Nat.reduceLT, Nat.reduceEqDiff, eq_self, d1', e1] | (with_reducible refine aIf_split (fun _ => ?_) (fun _ => ?_)) | (with_reducible refine aSel_split (fun _ => ?_) (fun _ => ?_)) | (with_reducible refine aGd_split (fun _ => ?_) (fun _ => ?_))))
      refine aLoop_of (fun st => ∃ (a : Nat) (P R : List Pt), P.length = a ∧ a + R.length = n ∧ a ≤ n ∧ Tg R ∧ G D l = P ++ G D R ∧ st = ⟨63, [(0, .osl 0), (1, eI (n : Int)), (2, .fn g []), (6, eI (bs : Int)), (7, eI (a : Int)), (8, eI ((a + D : Nat) : Int))], [(0, some (.row 95 3 ((P ++ G bs R).map encP)))], 1⟩) (fun st => n + D - slotN st 8) ⟨_, (weak_cut1 (by (first | ((simp only [envIn, tabIn, envLt, tabLt, AObj.lt, AV.lt, AV.ltL, ruW, ASt.get, aget, ↓reduceIte, reduceCtorEq, Nat.reduceLT, Nat.reduceEqDiff, eq_self, Nat.zero_add]) <;> (repeat' apply And.intro) <;> first | (rw [wrapK (by omega)]; done) | (simp; done) | omega) | fail))), 0, [], l, rfl, by omega, by omega, ht, rfl, rfl⟩ ?_
      rintro _ ⟨a, P, R, hP, haR, han, htR, hG, rfl⟩
      have hRl : R.length = n - a := by omega
      by_cases hlt2 : a + D ≤ n
      · have d2 : decide (((a + D : Nat) : Int) ≤ (n : Int)) = true := by simp only [decide_eq_true_eq]; omega
        have d2' : decide (a + D ≤ n) = true := by simpa using hlt2
        have e2 : IntKind.i64.wrap ((a : Int) + (bs : Int)) = ((a + bs : Nat) : Int) := by rw [wrap_in (by omega) (by omega)]; omega
        have e3 : IntKind.i64.wrap (((a + D : Nat) : Int) + (D : Int)) = ((a + D + D : Nat) : Int) := by rw [wrap_in (by omega) (by omega)]; omega
        have hX : (R.take D).take bs = R.take bs := by rw [List.take_take]; congr 1; omega
        have hY : (R.take D).drop bs = (R.drop bs).take bs := by rw [List.drop_take]; congr 1; omega
        have hDl : (R.take D).length = D := by rw [List.length_take]; omega
        have hdd : (R.drop bs).drop bs = R.drop D := by rw [List.drop_drop]; congr 1; omega
        have hG1 : G bs R = (srt (R.take bs) ++ srt ((R.drop bs).take bs)) ++ G bs (R.drop D) := by
          rw [G_ge (by omega) (by omega : bs ≤ R.length), G_ge (by omega) (by rw [List.length_drop]; omega : bs ≤ (R.drop bs).length), hdd, List.append_assoc]
        have hG2 : G D l = (P ++ srt (R.take D)) ++ G D (R.drop D) := by rw [hG, G_ge (by omega) (by omega : D ≤ R.length), List.append_assoc]
        have hM := merge_two g hg P (R.take D) (G bs (R.drop D)) bs a (a + bs) (a + D) (htR.take D) (by omega) (by omega) hP.symm rfl (by omega) (by rw [G_len (by omega), List.length_drop]; omega)
        rw [hX, hY] at hM
        rw [hG1, ← List.append_assoc P]
        have hPl : (P ++ srt (R.take D)).length = a + D := by rw [List.length_append, srt_len]; omega
        have htR2 := htR.drop D
        have hRl2 : (R.drop D).length = n - (a + D) := by rw [List.length_drop]; omega
        generalize P ++ srt (R.take D) = P2 at *
        generalize R.drop D = R2 at *
        generalize hQ0 : P ++ (srt (R.take bs) ++ srt ((R.drop bs).take bs)) ++ G bs R2 = Q0 at *
        clear hG1 hG hX hY hdd htR hRl
        (repeat' (first | simp (maxSteps := 5000000) (implicitDefEqProofs := false) only [ruA, ruB, aEv, aBin, bin2, ASt.get, aget, ASt.put, ↓reduceIte, reduceCtorEq, Nat.reduceLT, Nat.reduceEqDiff, eq_self, d2', e2] | (with_reducible refine aIf_split (fun _ => ?_) (fun _ => ?_)) | (with_reducible refine aSel_split (fun _ => ?_) (fun _ => ?_)) | (with_reducible refine aGd_split (fun _ => ?_) (fun _ => ?_))))
        refine callM hM (by simp [ATab.get_cons]) (by simp [treeML, treeM, treeL, treeC]) ?_
        (repeat' (first | simp (maxSteps := 5000000) (implicitDefEqProofs := false) only [ruA, ruB, aEv, aBin, bin2, ASt.get, aget, ASt.put, ↓reduceIte, Nat.reduceLT, Nat.reduceEqDiff, eq_self, e1, e3] | (with_reducible refine aIf_split (fun _ => ?_) (fun _ => ?_)) | (with_reducible refine aSel_split (fun _ => ?_) (fun _ => ?_)) | (with_reducible refine aGd_split (fun _ => ?_) (fun _ => ?_))))
        exact roundI (weak_cut1 (by (first | ((simp only [envIn, tabIn, envLt, tabLt, AObj.lt, AV.lt, AV.ltL, ruW, ASt.get, aget, ↓reduceIte, reduceCtorEq, Nat.reduceLT, Nat.reduceEqDiff, eq_self]) <;> (repeat' apply And.intro) <;> first | (rw [wrapK (by omega)]; done) | (simp; done) | omega) | fail))) ⟨a + D, P2, R2, hPl, by omega, hlt2, htR2, hG2, rfl⟩ (by simp only [slotN, ruW, ASt.get, aget, ↓reduceIte, Nat.reduceLT, Nat.reduceEqDiff, eq_self]; omega)
      · have d2 : decide (((a + D : Nat) : Int) ≤ (n : Int)) = false := by simp only [decide_eq_false_iff_not]; omega
        have d2' : decide (a + D ≤ n) = false := by simp only [decide_eq_false_iff_not]; omega
        have e2 : IntKind.i64.wrap ((a : Int) + (bs : Int)) = ((a + bs : Nat) : Int) := by rw [wrap_in (by omega) (by omega)]; omega
        have hG2 : G D l = P ++ srt R := by rw [hG, G_lt (bs := D) (by omega) (by omega)]
        by_cases hlt3 : a + bs < n
        · have d3 : decide (((a + bs : Nat) : Int) < (n : Int)) = true := by simp only [decide_eq_true_eq]; omega
          have d3' : decide (a + bs < n) = true := by simpa using hlt3
          have hG1 : G bs R = srt (R.take bs) ++ srt (R.drop bs) := by rw [G_ge (by omega) (by omega : bs ≤ R.length), G_lt (bs := bs) (by omega) (by rw [List.length_drop]; omega)]
          have hM := merge_two g hg P R [] bs a (a + bs) n htR (by omega) (by omega) hP.symm rfl (by omega) (by simp; omega)
          rw [List.append_nil, List.append_nil, ← hG1, ← hG2] at hM
          clear hG1 hG2 hG htR hRl
          (repeat' (first | simp (maxSteps := 5000000) (implicitDefEqProofs := false) only [ruA, ruB, aEv, aBin, bin2, ASt.get, aget, ASt.put, ↓reduceIte, reduceCtorEq, Nat.reduceLT, Nat.reduceEqDiff, eq_self, d2', e2, d3'] | (with_reducible refine aIf_split (fun _ => ?_) (fun _ => ?_)) | (with_reducible refine aSel_split (fun _ => ?_) (fun _ => ?_)) | (with_reducible refine aGd_split (fun _ => ?_) (fun _ => ?_))))
          refine callM hM (by simp [ATab.get_cons]) (by simp [treeML, treeM, treeL, treeC]) ?_
          (repeat' (first | simp (maxSteps := 5000000) (implicitDefEqProofs := false) only [ruA, ruB, aEv, aBin, bin2, ASt.get, aget, ASt.put, ↓reduceIte, Nat.reduceLT, Nat.reduceEqDiff, eq_self, e1'] | (with_reducible refine aIf_split (fun _ => ?_) (fun _ => ?_)) | (with_reducible refine aSel_split (fun _ => ?_) (fun _ => ?_)) | (with_reducible refine aGd_split (fun _ => ?_) (fun _ => ?_))))
          exact roundI (weak_cut1 (by (first | ((simp only [envIn, tabIn, envLt, tabLt, AObj.lt, AV.lt, AV.ltL, ruW, ASt.get, aget, ↓reduceIte, reduceCtorEq, Nat.reduceLT, Nat.reduceEqDiff, eq_self]) <;> (repeat' apply And.intro) <;> first | (rw [wrapK (by omega)]; done) | (simp; done) | omega) | fail))) ⟨D, by omega, by omega, rfl⟩ (by simp only [slotN, ruW, ASt.get, aget, ↓reduceIte, Nat.reduceLT, Nat.reduceEqDiff, eq_self]; omega)
        · have d3 : decide (((a + bs : Nat) : Int) < (n : Int)) = false := by simp only [decide_eq_false_iff_not]; omega
          have d3' : decide (a + bs < n) = false := by simp only [decide_eq_false_iff_not]; omega
          have hG1 : P ++ G bs R = G D l := by rw [hG2, G_lt (bs := bs) (by omega) (by omega)]
          rw [hG1]
          (repeat' (first | simp (maxSteps := 5000000) (implicitDefEqProofs := false) only [ruA, ruB, aEv, aBin, bin2, ASt.get, aget, ASt.put, ↓reduceIte, Nat.reduceLT, Nat.reduceEqDiff, eq_self, d2', e2, d3', e1'] | (with_reducible refine aIf_split (fun _ => ?_) (fun _ => ?_)) | (with_reducible refine aSel_split (fun _ => ?_) (fun _ => ?_)) | (with_reducible refine aGd_split (fun _ => ?_) (fun _ => ?_))))
          exact roundI (weak_cut1 (by (first | ((simp only [envIn, tabIn, envLt, tabLt, AObj.lt, AV.lt, AV.ltL, ruW, ASt.get, aget, ↓reduceIte, reduceCtorEq, Nat.reduceLT, Nat.reduceEqDiff, eq_self]) <;> (repeat' apply And.intro) <;> first | (rw [wrapK (by omega)]; done) | (simp; done) | omega) | fail))) ⟨D, by omega, by omega, rfl⟩ (by simp only [slotN, ruW, ASt.get, aget, ↓reduceIte, Nat.reduceLT, Nat.reduceEqDiff, eq_self]; omega)
    · have d1 : decide ((bs : Int) < (n : Int)) = false := by simp only [decide_eq_false_iff_not]; omega
      have d1' : decide (bs < n) = false := by simp only [decide_eq_false_iff_not]; omega
      rw [G_lt (bs := bs) (by omega) (by omega)]
      (repeat' (first | simp (maxSteps := 5000000) (implicitDefEqProofs := false) only [ruA, ruB, aEv, aBin, bin2, ASt.get, aget, ASt.put, ↓reduceIte, reduceCtorEq, Nat.reduceLT, Nat.reduceEqDiff, eq_self, d1', aRetM_n] | (with_reducible refine aIf_split (fun _ => ?_) (fun _ => ?_)) | (with_reducible refine aSel_split (fun _ => ?_) (fun _ => ?_)) | (with_reducible refine aGd_split (fun _ => ?_) (fun _ => ?_))))
set_option maxRecDepth 100000 in
set_option maxHeartbeats 8000000 in
theorem sortStable_M (g : FuncId) (hg : CmpOk g) (l : List Pt) (ht : Tg l) (hl : l.length ≤ 900000) : AMut Tryz.prog 58 95 3 (l.map encP) [.fn g []] ((srt l).map encP) := by
  have hM := stable_M g hg l l.length rfl ht hl
  refine amut_of_code mixedT Tryz.func58 rfl (by decide) Tryz.ntmps58 Tryz.results58 rfl (by kernel_rfl) ?_
  (repeat' (first | simp (maxSteps := 5000000) (implicitDefEqProofs := false) only [ruA, ruB, aEv, aLen, ASt.get, aget, ASt.put, envOf, ↓reduceIte, reduceCtorEq, Nat.reduceLT, Nat.reduceEqDiff, eq_self, ne_eq, tyE_92] | (with_reducible refine aIf_split (fun _ => ?_) (fun _ => ?_)) | (with_reducible refine aSel_split (fun _ => ?_) (fun _ => ?_)) | (with_reducible refine aGd_split (fun _ => ?_) (fun _ => ?_))))
  refine callM hM (by simp [ATab.get_cons]) (by simp [treeML, treeM, treeL, treeC]) ?_
  (repeat' (first | simp (maxSteps := 5000000) (implicitDefEqProofs := false) only [ruA, ruB, ASt.get, aget, ASt.put, ↓reduceIte, reduceCtorEq, Nat.reduceLT, eq_self, aRetM_n] | (with_reducible refine aIf_split (fun _ => ?_) (fun _ => ?_)) | (with_reducible refine aSel_split (fun _ => ?_) (fun _ => ?_)) | (with_reducible refine aGd_split (fun _ => ?_) (fun _ => ?_))))
end
section
open Go.RowKit
def numsL (vals c : List Int) : List Int := sortR (vals ++ c)
def attrsN (vals : List Int) (n : Int) : Nat → Int
  | 0 => 0
  | k + 1 => if vals.getD k 0 = n then withB (attrsN vals n k) (k : Int) else attrsN vals n k
def constN (c : List Int) (n : Int) : Nat → Int
  | 0 => -1
  | k + 1 => if c.getD k 0 = n then (k : Int) else constN c n k
def clsOf (vals c : List Int) (n : Int) : Cls := ⟨attrsN vals n vals.length, constN (sortR c) n (sortR c).length⟩
def clsL (vals c : List Int) : List Cls := (numsL vals c).map (clsOf vals c)
theorem hasB_zero (a : Int) : hasB 0 a = false := by simp [hasB]
theorem attrs_has (vals : List Int) (n : Int) : ∀ k, k ≤ 31 → ∀ a : Int, hasB (attrsN vals n k) a = true ↔ ∃ q : Nat, a = (q : Int) ∧ q < k ∧ vals.getD q 0 = n
  | 0, _, a => by
    unfold attrsN
    rw [hasB_zero]
    constructor
    · intro h
      cases h
    · rintro ⟨q, _, h, _⟩
      omega
  | k + 1, hk, a => by
    have ih := attrs_has vals n k (by omega) a
    unfold attrsN
    by_cases hv : vals.getD k 0 = n
    · rw [if_pos hv, hasB_with]
      have h1 : decide (0 ≤ (k : Int) ∧ (k : Int) < 31) = true := by simp only [decide_eq_true_eq]; omega
      rw [h1, Bool.true_and, Bool.or_eq_true, ih]
      constructor
      · rintro (h | ⟨q, h2, h3, h4⟩)
        · exact ⟨k, by simpa using h, by omega, hv⟩
        · exact ⟨q, h2, by omega, h4⟩
      · rintro ⟨q, h2, h3, h4⟩
        rcases Nat.lt_or_ge q k with h5 | h5
        · exact .inr ⟨q, h2, h5, h4⟩
        · obtain rfl : q = k := by omega
          exact .inl (by simp [h2])
    · rw [if_neg hv, ih]
      constructor
      · rintro ⟨q, h2, h3, h4⟩
        exact ⟨q, h2, by omega, h4⟩
      · rintro ⟨q, h2, h3, h4⟩
        rcases Nat.lt_or_ge q k with h5 | h5
        · exact ⟨q, h2, h5, h4⟩
        · obtain rfl : q = k := by omega
          exact absurd h4 hv
theorem const_spec (c : List Int) (n : Int) : ∀ k, (constN c n k = -1 ∧ ∀ q, q < k → c.getD q 0 ≠ n) ∨ ∃ q : Nat, constN c n k = (q : Int) ∧ q < k ∧ c.getD q 0 = n
  | 0 => .inl ⟨rfl, fun q h => by omega⟩
  | k + 1 => by
    unfold constN
    by_cases hv : c.getD k 0 = n
    · rw [if_pos hv]
      exact .inr ⟨k, rfl, by omega, hv⟩
    · rw [if_neg hv]
      rcases const_spec c n k with ⟨h1, h2⟩ | ⟨q, h1, h2, h3⟩
      · refine .inl ⟨h1, fun q h => ?_⟩
        rcases Nat.lt_or_ge q k with h5 | h5
        · exact h2 q h5
        · obtain rfl : q = k := by omega
          exact hv
      · exact .inr ⟨q, h1, by omega, h3⟩
end
section
open Go.RowKit
def capV (r : Int) : Int := 2 ^ (min r.toNat 20) - 1
def gapV (a b m : Int) : Int := max 0 (min (b - a - 1) m)
end
section
open Go.RowKit
def gapsN (L : List Int) (r : Int) (k : Nat) : List Int := (List.range (k - 1)).map fun i => gapV (L.getD i 0) (L.getD (i + 1) 0) (capV r)
def zoneM (vals c : List Int) (r : Int) : Zn := ⟨clsL vals c, gapsN (numsL vals c) r (numsL vals c).length⟩
theorem capV_le (r : Int) : capV r ≤ 4294967296 := by
  have h1 : (2 : Nat) ^ (min r.toNat 20) ≤ 2 ^ 20 := Nat.pow_le_pow_right (by omega) (by omega)
  have h2 : ((2 ^ (min r.toNat 20) : Nat) : Int) = (2 : Int) ^ (min r.toNat 20) := by simp
  unfold capV
  omega
end
section
open Go.RowKit
def orI (a b : Int) : Int := bits .or .i64 a b
theorem withB_nat (a i : Nat) (ha : a < 2 ^ 31) (hi : i < 31) : withB (a : Int) (i : Int) = ((a ||| 2 ^ i : Nat) : Int) := by
  unfold withB
  rw [if_pos (by omega), low_of a ha, Int.toNat_natCast]
theorem orI_with (a i : Nat) (ha : a < 2 ^ 31) (hi : i < 31) : orI (a : Int) (withB 0 (i : Int)) = withB (a : Int) (i : Int) := by
  have h0 := withB_nat 0 i (by decide) hi
  rw [show ((0 : Nat) : Int) = 0 from rfl] at h0
  have hp : 2 ^ i < 2 ^ 31 := Nat.pow_lt_pow_right (by decide) hi
  rw [h0, withB_nat a i ha hi, Nat.zero_or]
  exact or_nat a (2 ^ i) (by omega) (by omega)
theorem orI_zero (i : Nat) (hi : i < 31) : orI 0 (withB 0 (i : Int)) = withB 0 (i : Int) := orI_with 0 i (by decide) hi
theorem orI_zz : orI 0 0 = 0 := by
  have := or_nat 0 0 (by decide) (by decide)
  simpa [orI] using this
def ptsC (sc : List Int) (k : Nat) : List Pt := (List.range k).map fun i => ⟨sc.getD i 0, 0, i, i⟩
def ptsV (vals : List Int) (b k : Nat) : List Pt := (List.range k).map fun i => ⟨vals.getD i 0, withB 0 (i : Int), -1, (b + i : Nat)⟩
theorem ptsC_snoc (sc : List Int) (k : Nat) : ptsC sc (k + 1) = ptsC sc k ++ [⟨sc.getD k 0, 0, k, k⟩] := by simp [ptsC, List.range_succ]
theorem ptsV_snoc (vals : List Int) (b k : Nat) : ptsV vals b (k + 1) = ptsV vals b k ++ [⟨vals.getD k 0, withB 0 (k : Int), -1, (b + k : Nat)⟩] := by simp [ptsV, List.range_succ]
theorem ptsC_len (sc : List Int) (k : Nat) : (ptsC sc k).length = k := by simp [ptsC]
theorem ptsV_len (vals : List Int) (b k : Nat) : (ptsV vals b k).length = k := by simp [ptsV]
def ptsL (vals sc : List Int) : List Pt := ptsC sc sc.length ++ ptsV vals sc.length vals.length
theorem ptsL_tg (vals sc : List Int) : Tg (ptsL vals sc) := by
  refine List.pairwise_append.2 ⟨?_, ?_, ?_⟩
  · exact List.pairwise_map.2 (List.pairwise_lt_range.imp fun {x y} h => by simp; omega)
  · exact List.pairwise_map.2 (List.pairwise_lt_range.imp fun {x y} h => by simp; omega)
  · intro x hx y hy
    obtain ⟨i, hi, rfl⟩ := List.mem_map.1 hx
    obtain ⟨j, hj, rfl⟩ := List.mem_map.1 hy
    simp at hi hj ⊢
    omega
/-- those of one number, in one -/
def fil (T : List Pt) (m : Int) : List Pt := T.filter fun p => p.n == m
def valP (T : List Pt) (m : Int) : Pt := ⟨m, (fil T m).foldl (fun a q => orI a q.a) 0, ((fil T m).head?.map (·.c)).getD 0, 0⟩
theorem fil_snoc (T : List Pt) (p : Pt) (m : Int) : fil (T ++ [p]) m = if p.n = m then fil T m ++ [p] else fil T m := by
  unfold fil
  rw [List.filter_append]
  by_cases h : p.n = m
  · rw [if_pos h]
    simp [h]
  · rw [if_neg h]
    simp [h]
theorem valP_other {T : List Pt} {p : Pt} {m : Int} (h : p.n ≠ m) : valP (T ++ [p]) m = valP T m := by
  unfold valP
  rw [fil_snoc, if_neg h]
theorem valP_same {T : List Pt} {p : Pt} (h : ∃ q ∈ T, q.n = p.n) : valP (T ++ [p]) p.n = ⟨p.n, orI (valP T p.n).a p.a, (valP T p.n).c, 0⟩ := by
  obtain ⟨q, hq, hqn⟩ := h
  have hm : q ∈ fil T p.n := List.mem_filter.2 ⟨hq, by simpa using hqn⟩
  unfold valP
  rw [fil_snoc, if_pos rfl, List.foldl_append]
  cases hf : fil T p.n with
  | nil => rw [hf] at hm; cases hm
  | cons y ys => simp
theorem valP_new {T : List Pt} {p : Pt} (h : ∀ q ∈ T, q.n ≠ p.n) (ha : orI 0 p.a = p.a) : valP (T ++ [p]) p.n = ⟨p.n, p.a, p.c, 0⟩ := by
  have hf : fil T p.n = [] := List.filter_eq_nil_iff.2 fun q hq => by simpa using h q hq
  unfold valP
  rw [fil_snoc, if_pos rfl, hf]
  simp [ha]
/-- what lies behind some of the points -/
def Outs (T : List Pt) (o : List Int) : Prop := Up o ∧ (∀ m, m ∈ o ↔ ∃ p ∈ T, p.n = m)
theorem outs_last {S : List Pt} (hS : Srt S) {k : Nat} (hk : k < S.length) {o : List Int} (ho : Outs (S.take k) o) : (∃ o1, o = o1 ++ [S[k].n] ∧ ∀ m ∈ o1, m < S[k].n) ∨ (∀ m ∈ o, m < S[k].n) := by
  have hle : ∀ m ∈ o, m ≤ S[k].n := fun m hm => by
    obtain ⟨p, hp, rfl⟩ := (ho.2 m).1 hm
    obtain ⟨i, hi, rfl⟩ := List.getElem_of_mem hp
    rw [List.length_take] at hi
    rw [List.getElem_take]
    exact n_mono hS (by omega) hk
  rcases List.eq_nil_or_concat o with rfl | ⟨o1, x, rfl⟩
  · exact .inr (by simp)
  · have hup : Up (o1 ++ [x]) := by simpa using ho.1
    have hlt : ∀ m ∈ o1, m < x := fun m hm => (List.pairwise_append.1 hup).2.2 m hm x (by simp)
    by_cases hx : x = S[k].n
    · exact .inl ⟨o1, by simp [hx], fun m hm => hx ▸ hlt m hm⟩
    · have := hle x (by simp)
      exact .inr fun m hm => by
        simp at hm
        rcases hm with hm | rfl
        · have := hlt m hm
          omega
        · omega
theorem outs_same {T : List Pt} {p : Pt} {o1 : List Int} (ho : Outs T (o1 ++ [p.n])) : Outs (T ++ [p]) (o1 ++ [p.n]) := ⟨ho.1, fun m => by
  rw [ho.2 m]
  constructor
  · rintro ⟨q, hq, h⟩
    exact ⟨q, List.mem_append_left _ hq, h⟩
  · rintro ⟨q, hq, rfl⟩
    rcases List.mem_append.1 hq with hq | hq
    · exact ⟨q, hq, rfl⟩
    · obtain rfl : q = p := by simpa using hq
      exact (ho.2 _).1 (by simp)⟩
theorem outs_new {T : List Pt} {p : Pt} {o : List Int} (ho : Outs T o) (h : ∀ m ∈ o, m < p.n) : Outs (T ++ [p]) (o ++ [p.n]) := by
  refine ⟨List.pairwise_append.2 ⟨ho.1, List.pairwise_singleton _ _, fun m hm y hy => ?_⟩, fun m => ?_⟩
  · obtain rfl : y = p.n := by simpa using hy
    exact h m hm
  · rw [List.mem_append, ho.2 m]
    constructor
    · rintro (⟨q, hq, h⟩ | h)
      · exact ⟨q, List.mem_append_left _ hq, h⟩
      · exact ⟨p, by simp, by simpa using (List.mem_singleton.1 h).symm⟩
    · rintro ⟨q, hq, rfl⟩
      rcases List.mem_append.1 hq with hq | hq
      · exact .inl ⟨q, hq, rfl⟩
      · obtain rfl : q = p := by simpa using hq
        exact .inr (by simp)
theorem map_same {T : List Pt} {p : Pt} {o1 : List Int} (ho : Outs T (o1 ++ [p.n])) (h : ∀ m ∈ o1, m < p.n) : (o1 ++ [p.n]).map (valP (T ++ [p])) = o1.map (valP T) ++ [⟨p.n, orI (valP T p.n).a p.a, (valP T p.n).c, 0⟩] := by
  rw [List.map_append]
  congr 1
  · exact List.map_congr_left fun m hm => valP_other (by have := h m hm; omega)
  · rw [List.map_singleton, valP_same ((ho.2 p.n).1 (by simp))]
theorem map_new {T : List Pt} {p : Pt} {o : List Int} (ho : Outs T o) (h : ∀ m ∈ o, m < p.n) (ha : orI 0 p.a = p.a) : (o ++ [p.n]).map (valP (T ++ [p])) = o.map (valP T) ++ [⟨p.n, p.a, p.c, 0⟩] := by
  rw [List.map_append]
  congr 1
  · exact List.map_congr_left fun m hm => valP_other (by have := h m hm; omega)
  · rw [List.map_singleton, valP_new (fun q hq hqn => ?_) ha]
    have := h p.n ((ho.2 _).2 ⟨q, hq, hqn⟩)
    omega
theorem fil_srt {l : List Pt} (h : Tg l) (m : Int) : fil (srt l) m = fil l m := by
  refine ((srt_perm l).filter _).eq_of_pairwise (le := fun x y => x.t < y.t) (fun x y _ _ h1 h2 => by omega) ?_ (List.Pairwise.filter (R := fun x y : Pt => x.t < y.t) _ h)
  refine List.Pairwise.imp_of_mem (fun {x y} hx hy hxy => ?_) (List.Pairwise.filter (fun p => p.n == m) (srt_sorted h.dt))
  have h1 := (List.mem_filter.1 hx).2
  have h2 := (List.mem_filter.1 hy).2
  simp at h1 h2
  unfold ltE at hxy
  omega
theorem attrs_nat (vals : List Int) (m : Int) : ∀ k, k ≤ 31 → ∃ a : Nat, attrsN vals m k = (a : Int) ∧ a < 2 ^ 31
  | 0, _ => ⟨0, rfl, by decide⟩
  | k + 1, hk => by
    obtain ⟨a, ha, hlt⟩ := attrs_nat vals m k (by omega)
    unfold attrsN
    split
    · exact ⟨a ||| 2 ^ k, by rw [ha, withB_nat a k hlt (by omega)], Nat.or_lt_two_pow hlt (Nat.pow_lt_pow_right (by decide) (by omega))⟩
    · exact ⟨a, ha, hlt⟩
theorem fold_V (vals : List Int) (b : Nat) (m : Int) : ∀ k, k ≤ 31 → (fil (ptsV vals b k) m).foldl (fun a q => orI a q.a) 0 = attrsN vals m k
  | 0, _ => rfl
  | k + 1, hk => by
    have ih := fold_V vals b m k (by omega)
    obtain ⟨a, ha, hlt⟩ := attrs_nat vals m k (by omega)
    rw [ptsV_snoc, fil_snoc]
    unfold attrsN
    by_cases h : vals.getD k 0 = m
    · rw [if_pos h, if_pos h, List.foldl_append, ih]
      simp only [List.foldl_cons, List.foldl_nil]
      rw [ha, orI_with a k hlt (by omega)]
    · rw [if_neg h, if_neg h, ih]
theorem fold_C (sc : List Int) (m : Int) : ∀ k, (fil (ptsC sc k) m).foldl (fun a q => orI a q.a) 0 = 0
  | 0 => rfl
  | k + 1 => by
    have ih := fold_C sc m k
    rw [ptsC_snoc, fil_snoc]
    split
    · rw [List.foldl_append, ih]
      simp [orI_zz]
    · exact ih
theorem fil_C {sc : List Int} (hup : Up sc) (m : Int) : ∀ k, k ≤ sc.length → (fil (ptsC sc k) m = [] ∧ constN sc m k = -1) ∨ ∃ i : Nat, ∃ h : i < sc.length, i < k ∧ fil (ptsC sc k) m = [⟨sc[i], 0, i, i⟩] ∧ constN sc m k = (i : Int) ∧ sc[i] = m
  | 0, _ => .inl ⟨rfl, rfl⟩
  | k + 1, hk => by
    have hk' : k < sc.length := by omega
    have hg : sc.getD k 0 = sc[k] := by rw [List.getD_eq_getElem?_getD, List.getElem?_eq_getElem hk']; rfl
    rw [ptsC_snoc, fil_snoc]
    unfold constN
    simp only [hg]
    by_cases h : sc[k] = m
    · rw [if_pos h, if_pos h]
      right
      refine ⟨k, hk', by omega, ?_, rfl, h⟩
      rcases fil_C hup m k (by omega) with ⟨h1, _⟩ | ⟨i, hi, hik, _, _, h2⟩
      · rw [h1]
        rfl
      · have := List.pairwise_iff_getElem.1 hup i k hi hk' hik
        omega
    · rw [if_neg h, if_neg h]
      rcases fil_C hup m k (by omega) with h1 | ⟨i, hi, hik, h1⟩
      · exact .inl h1
      · exact .inr ⟨i, hi, by omega, h1⟩
theorem mem_pts (vals sc : List Int) (m : Int) : (∃ p ∈ ptsL vals sc, p.n = m) ↔ m ∈ sc ∨ m ∈ vals := by
  have key : ∀ (l : List Int) (m : Int), (∃ i, i < l.length ∧ l.getD i 0 = m) ↔ m ∈ l := fun l m => by
    constructor
    · rintro ⟨i, hi, rfl⟩
      rw [List.getD_eq_getElem?_getD, List.getElem?_eq_getElem hi]
      exact List.getElem_mem hi
    · intro h
      obtain ⟨i, hi, rfl⟩ := List.getElem_of_mem h
      exact ⟨i, hi, by rw [List.getD_eq_getElem?_getD, List.getElem?_eq_getElem hi]; rfl⟩
  rw [← key sc, ← key vals]
  constructor
  · rintro ⟨p, hp, rfl⟩
    rcases List.mem_append.1 hp with hp | hp
    · obtain ⟨i, hi, rfl⟩ := List.mem_map.1 hp
      exact .inl ⟨i, by simpa using hi, rfl⟩
    · obtain ⟨i, hi, rfl⟩ := List.mem_map.1 hp
      exact .inr ⟨i, by simpa using hi, rfl⟩
  · rintro (⟨i, hi, rfl⟩ | ⟨i, hi, rfl⟩)
    · exact ⟨_, List.mem_append_left _ (List.mem_map.2 ⟨i, by simpa using hi, rfl⟩), rfl⟩
    · exact ⟨_, List.mem_append_right _ (List.mem_map.2 ⟨i, by simpa using hi, rfl⟩), rfl⟩
theorem outs_nums {vals c o : List Int} (ho : Outs (srt (ptsL vals (sortR c))) o) : o = numsL vals c := by
  refine up_ext _ _ ho.1 (sortR_up _).1 fun m => ?_
  rw [ho.2 m]
  unfold numsL
  rw [(sortR_up (vals ++ c)).2 m, List.mem_append]
  have h1 : (∃ p ∈ srt (ptsL vals (sortR c)), p.n = m) ↔ ∃ p ∈ ptsL vals (sortR c), p.n = m := by simp only [srt_mem]
  rw [h1, mem_pts, (sortR_up c).2 m]
  exact Or.comm
theorem valP_cls {vals c : List Int} (hv : vals.length ≤ 31) {m : Int} (hm : m ∈ numsL vals c) : valP (srt (ptsL vals (sortR c))) m = ⟨m, (clsOf vals c m).attrs, (clsOf vals c m).const, 0⟩ := by
  have hup := (sortR_up c).1
  unfold valP clsOf
  rw [fil_srt (ptsL_tg vals (sortR c)) m]
  unfold ptsL
  rw [show fil (ptsC (sortR c) (sortR c).length ++ ptsV vals (sortR c).length vals.length) m = fil (ptsC (sortR c) (sortR c).length) m ++ fil (ptsV vals (sortR c).length vals.length) m from List.filter_append .., List.foldl_append, fold_C, fold_V _ _ _ _ hv]
  congr 1
  rcases fil_C hup m _ (Nat.le_refl _) with ⟨h1, h2⟩ | ⟨i, hi, _, h1, h2, _⟩
  · rw [h1, h2]
    cases hf : fil (ptsV vals (sortR c).length vals.length) m with
    | nil =>
      have hno : ¬ ∃ p ∈ ptsL vals (sortR c), p.n = m := by
        rintro ⟨p, hp, hpn⟩
        rcases List.mem_append.1 hp with hp | hp
        · have : p ∈ fil (ptsC (sortR c) (sortR c).length) m := List.mem_filter.2 ⟨hp, by simpa using hpn⟩
          rw [h1] at this
          cases this
        · have : p ∈ fil (ptsV vals (sortR c).length vals.length) m := List.mem_filter.2 ⟨hp, by simpa using hpn⟩
          rw [hf] at this
          cases this
      rw [mem_pts, (sortR_up c).2 m] at hno
      have := ((sortR_up (vals ++ c)).2 m).1 hm
      rw [List.mem_append] at this
      exact absurd this.symm hno
    | cons q qs =>
      have hq : q ∈ fil (ptsV vals (sortR c).length vals.length) m := by rw [hf]; simp
      obtain ⟨i, _, rfl⟩ := List.mem_map.1 (List.mem_filter.1 hq).1
      rfl
  · rw [h1, h2]
    rfl
theorem outs_all {vals c o : List Int} (hv : vals.length ≤ 31) (ho : Outs (srt (ptsL vals (sortR c))) o) : o.map (valP (srt (ptsL vals (sortR c)))) = (numsL vals c).map fun m => ⟨m, (clsOf vals c m).attrs, (clsOf vals c m).const, 0⟩ := by
  rw [outs_nums ho]
  exact List.map_congr_left fun m hm => valP_cls hv hm
theorem pts_a {vals sc : List Int} (hv : vals.length ≤ 31) : ∀ p ∈ ptsL vals sc, orI 0 p.a = p.a := fun p hp => by
  rcases List.mem_append.1 hp with hp | hp
  · obtain ⟨i, _, rfl⟩ := List.mem_map.1 hp
    exact orI_zz
  · obtain ⟨i, hi, rfl⟩ := List.mem_map.1 hp
    exact orI_zero i (by simp at hi; omega)
end
section
open Go.RowKit
theorem isNaN64_A (a : Int) : ADet Tryz.prog 77 [eI a] (val (.bool false)) := by
  refine adet_of_code mixedT Tryz.func77 rfl (by decide) Tryz.ntmps77 Tryz.results77 rfl (val_ok _) ?_
  have h : (a != a) = false := by simp
  (repeat' (first | simp (maxSteps := 5000000) (implicitDefEqProofs := false) only [ruA, aEv, aBin, bin2, ASt.get, aget, ASt.put, envOf, aResL, aOne, ↓reduceIte, reduceCtorEq, Nat.reduceLT, Nat.reduceEqDiff, eq_self, h] | (with_reducible refine aIf_split (fun _ => ?_) (fun _ => ?_)) | (with_reducible refine aSel_split (fun _ => ?_) (fun _ => ?_)) | (with_reducible refine aGd_split (fun _ => ?_) (fun _ => ?_)) | (with_reducible refine aDraw_quiet (by kernel_rfl) ?_)))
theorem cmp64_A (a b : Int) : ADet Tryz.prog 60 [eI a, eI b] (val (.int .i64 (cmpI a b))) := by
  refine adet_of_code mixedT Tryz.func60 rfl (by decide) Tryz.ntmps60 Tryz.results60 rfl (val_ok _) ?_
  (repeat' (first | simp (maxSteps := 5000000) (implicitDefEqProofs := false) only [ruA, ruB, aEv, aBin, bin2, ASt.get, aget, ASt.put, envOf, aResL, aOne, ↓reduceIte, reduceCtorEq, Nat.reduceLT, Nat.reduceEqDiff, eq_self] | (with_reducible refine aIf_split (fun _ => ?_) (fun _ => ?_)) | (with_reducible refine aSel_split (fun _ => ?_) (fun _ => ?_)) | (with_reducible refine aGd_split (fun _ => ?_) (fun _ => ?_)) | (with_reducible refine aDraw_quiet (by kernel_rfl) ?_) | ((with_reducible apply callV (g := 77)); exact (isNaN64_A a)) | ((with_reducible apply callD (g := 77)); exact (isNaN64_A a)) | ((with_reducible apply callV (g := 77)); exact (isNaN64_A b)) | ((with_reducible apply callD (g := 77)); exact (isNaN64_A b))))
  all_goals (simp only [cmpI]; simp_all; try omega)
theorem points1_A : CmpOk 59 := fun x y => by
  refine adet_of_code mixedT Tryz.func59 rfl (by decide) Tryz.ntmps59 Tryz.results59 rfl (val_ok _) ?_
  (repeat' (first | simp (maxSteps := 5000000) (implicitDefEqProofs := false) only [ruA, ruB, aEv, aTake, aLoad, aField, ASt.get, aget, ASt.put, aBox, aCells, oneC, oneCL, Value.oneCell', envOf, aResL, aOne, ↓reduceIte, reduceCtorEq, Nat.reduceLT, Nat.reduceEqDiff, Nat.reduceAdd, Nat.reduceLeDiff, eq_self, tyF_95_0, tyA_2, tyS_2] | (with_reducible refine aIf_split (fun _ => ?_) (fun _ => ?_)) | (with_reducible refine aSel_split (fun _ => ?_) (fun _ => ?_)) | (with_reducible refine aGd_split (fun _ => ?_) (fun _ => ?_)) | (with_reducible refine aDraw_quiet (by kernel_rfl) ?_) | ((with_reducible apply callV (g := 60)); exact (cmp64_A x.n y.n)) | ((with_reducible apply callD (g := 60)); exact (cmp64_A x.n y.n))))
set_option maxRecDepth 100000 in
theorem bitsOf_A (i : Int) : ADet Tryz.prog 57 [.sl 1 [[eI i]]] (val (.int .i64 (withB 0 i))) := by
  refine adet_of_code mixedT Tryz.func57 rfl (by decide) Tryz.ntmps57 Tryz.results57 rfl (val_ok _) ?_
  (repeat' (first | simp (maxSteps := 5000000) (implicitDefEqProofs := false) only [ruA, ruB, aEv, aLen, ASt.get, aget, ASt.put, envOf, ↓reduceIte, reduceCtorEq, Nat.reduceLT, eq_self, ne_eq, tyE_23] | (with_reducible refine aIf_split (fun _ => ?_) (fun _ => ?_)) | (with_reducible refine aSel_split (fun _ => ?_) (fun _ => ?_)) | (with_reducible refine aGd_split (fun _ => ?_) (fun _ => ?_))))
  refine aLoop_of (fun st => ∃ (k : Nat) (s : Int), k ≤ 1 ∧ s = (if k = 0 then 0 else withB 0 i) ∧ st = ⟨17, [(3, eI s), (6, .sl 1 [[eI i]]), (7, eI 1), (8, eI (k : Int))], [], 0⟩) (fun st => 1 - slotN st 8) ⟨_, (weak_cut1 (by (first | ((simp only [envIn, tabIn, envLt, tabLt, AV.lt, ruW, ASt.get, aget, ↓reduceIte, Nat.reduceLT, Nat.reduceEqDiff, eq_self]) <;> (repeat' apply And.intro) <;> first | (rw [wrapK (by omega)]; done) | (simp; done) | omega) | fail))), 0, 0, Nat.zero_le _, rfl, rfl⟩ ?_
  rintro _ ⟨k, s, hk, hs, rfl⟩
  match k with
  | 0 =>
    simp only [if_true] at hs
    subst hs
    have d1 : decide (((0 : Nat) : Int) < 1) = true := by decide
    have d2 : decide ((0 : Int) < 1) = true := by decide
    (repeat' (first | simp (maxSteps := 5000000) (implicitDefEqProofs := false) only [ruA, ruB, aEv, aTake, aLoad, aIndex, aBin, bin2, ASt.get, aget, ASt.put, ↓reduceIte, reduceCtorEq, Nat.reduceLT, Nat.reduceEqDiff, eq_self, tyE_23, tyA_3, tyS_3, d1] | (with_reducible refine aIf_split (fun _ => ?_) (fun _ => ?_)) | (with_reducible refine aSel_split (fun _ => ?_) (fun _ => ?_)) | (with_reducible refine aGd_split (fun _ => ?_) (fun _ => ?_)) | (with_reducible refine aDraw_quiet (by kernel_rfl) ?_) | ((with_reducible apply callV (g := 64)); exact (with_A 0 i)) | ((with_reducible apply callD (g := 64)); exact (with_A 0 i))))
    all_goals first
      | exact roundI (weak_cut1 (by (first | ((simp only [envIn, tabIn, envLt, tabLt, AV.lt, ruW, ASt.get, aget, ↓reduceIte, Nat.reduceLT, Nat.reduceEqDiff, eq_self]) <;> (repeat' apply And.intro) <;> first | (rw [wrapK (by omega)]; done) | (simp; done) | omega) | fail))) ⟨1, withB 0 i, Nat.le_refl _, by simp, rfl⟩ (by simp only [slotN, ruW, ASt.get, aget, ↓reduceIte, Nat.reduceLT, Nat.reduceEqDiff, eq_self]; omega)
      | trace_state
  | 1 =>
    simp only [Nat.one_ne_zero, if_false] at hs
    subst hs
    have d1 : decide (((1 : Nat) : Int) < 1) = false := by decide
    (repeat' (first | simp (maxSteps := 5000000) (implicitDefEqProofs := false) only [ruA, ruB, aEv, aBin, bin2, ASt.get, aget, ASt.put, aResL, aOne, ↓reduceIte, Nat.reduceLT, Nat.reduceEqDiff, eq_self, d1] | (with_reducible refine aIf_split (fun _ => ?_) (fun _ => ?_)) | (with_reducible refine aSel_split (fun _ => ?_) (fun _ => ?_)) | (with_reducible refine aGd_split (fun _ => ?_) (fun _ => ?_)) | (with_reducible refine aDraw_quiet (by kernel_rfl) ?_)))
    all_goals trace_state
  | k + 2 => omega
theorem AMut.fn1 {P : Program} {f g : FuncId} {e : TypeId} {sz : Nat} {rows rows' : List (List AV)} (h : AMut P f e sz rows [.fn g []] rows') : AMut P f e sz rows [.c (.func (.func g) #[] #[])] rows' :=
  ⟨h.1, fun S w base v vs h1 hD h2 h3 h4 h5 => h.2 S w base v vs h1 hD h2 h3 h4 fun j x av hj hav => by
    match j with
    | 0 =>
      simp at hav
      subst hav
      rw [rtc (h5 0 x _ hj rfl)]
      exact .fn g #[] [] rfl fun j x av hx _ => by simp at hx
    | j + 1 => simp at hav⟩
set_option maxRecDepth 100000 in
set_option maxHeartbeats 8000000 in
theorem points_A (vals c : List Int) (h1 : vals.length ≤ 31) (h2 : c.length ≤ 1000) : ADet Tryz.prog 46 [sI vals, sI c] (own 95 3 ((numsL vals c).map fun n => encP ⟨n, (clsOf vals c n).attrs, (clsOf vals c n).const, 0⟩)) := by
  refine adet_of_code mixedT Tryz.func46 rfl (by decide) Tryz.ntmps46 Tryz.results46 rfl (own_ok _ _ _) ?_
  have hS := numSorted_A c (by omega)
  have hslen := sortR_len c
  have hfin := fun o (ho : Outs (srt (ptsL vals (sortR c))) o) => congrArg (List.map encP) (outs_all h1 ho)
  have htg := ptsL_tg vals (sortR c)
  have hpa := pts_a (vals := vals) (sc := sortR c) h1
  rw [List.map_map] at hfin
  obtain ⟨F, hF⟩ : ∃ F, ((numsL vals c).map fun n => encP ⟨n, (clsOf vals c n).attrs, (clsOf vals c n).const, 0⟩) = F := ⟨_, rfl⟩
  have hfin2 : ∀ o, Outs (srt (ptsL vals (sortR c))) o → (o.map (valP (srt (ptsL vals (sortR c))))).map encP = F := fun o ho => by
    rw [← hF, outs_all h1 ho, List.map_map]
    rfl
  clear hfin
  rw [hF]
  obtain ⟨sc, hsc⟩ : ∃ sc, sortR c = sc := ⟨_, rfl⟩
  rw [hsc] at hS hslen htg hpa hfin2
  clear hF hsc
  (repeat' (first | simp (maxSteps := 5000000) (implicitDefEqProofs := false) only [ruA, ruB, aEv, aLen, ASt.get, aget, ASt.put, envOf, ↓reduceIte, Nat.reduceLT, Nat.reduceEqDiff, eq_self, ne_eq, AV.shift, tyE_34] | (with_reducible refine aIf_split (fun _ => ?_) (fun _ => ?_)) | (with_reducible refine aSel_split (fun _ => ?_) (fun _ => ?_)) | (with_reducible refine aGd_split (fun _ => ?_) (fun _ => ?_)) | (with_reducible refine aDraw_quiet (by kernel_rfl) ?_) | ((with_reducible apply callT); exact (hS); exact (.inl (by simp [roL, roA])))))
  refine aLoop_of (fun st => ∃ k : Nat, k ≤ sc.length ∧ st = ⟨93, [(0, sI vals), (5, .osl 0), (15, sI sc), (16, eI (sc.length : Int)), (17, eI (k : Int))], [(0, some (.row 95 3 ((ptsC sc k).map encP)))], 1⟩) (fun st => sc.length - slotN st 17) ⟨_, ((weak_nil 5 95 3 (by simp only [ASt.get, aget, ↓reduceIte, Nat.reduceLT, Nat.reduceEqDiff, eq_self])).trans (weak_ren1 [0] ⟨(by decide), (by (first | ((simp only [envInR, tabInR, envLt, tabLt, AObj.lt, AV.lt, AV.ren, AObj.ren, List.getD_cons_zero, List.length_cons, List.length_nil, ruW, ASt.get, aget, ↓reduceIte, reduceCtorEq, Nat.reduceLT, Nat.reduceEqDiff, Nat.reduceAdd, eq_self, ptsC, List.range_zero]) <;> (repeat' apply And.intro) <;> first | (rw [wrapK (by omega)]; done) | (simp; done) | omega) | fail))⟩)), 0, Nat.zero_le _, rfl⟩ ?_
  rintro _ ⟨k, hk, rfl⟩
  by_cases hlt : k < sc.length
  · have hg : sc.getD k 0 = sc[k] := by rw [List.getD_eq_getElem?_getD, List.getElem?_eq_getElem hlt]; rfl
    have hsn : (ptsC sc (k + 1)).map encP = (ptsC sc k).map encP ++ [[eI sc[k], eI 0, eI (k : Int)]] := by
      rw [ptsC_snoc, List.map_append, hg]
      rfl
    have hpl := ptsC_len sc k
    (repeat' (first | simp (maxSteps := 5000000) (implicitDefEqProofs := false) only [ruA, ruB, aEv, aTake, aLoad, aIndex, aBin, bin2, ASt.get, aget, ASt.put, aAppend, aBuildSlice, aBuild, aFill, oneParts, aCells, oneC, oneCL, treeC, treeL, aLit, aDst, aSrc, appTab, Value.cells, Value.oneCell', ↓reduceIte, reduceCtorEq, Nat.reduceLT, Nat.reduceEqDiff, Nat.reduceAdd, Nat.reduceMul, Nat.reduceLeDiff, eq_self, aBuildSlice1, frzs, ownIds, tyE_34, tyA_2, tyS_2, tyB_46, tyB_95, tyR_92, row_at, hlt] | (with_reducible refine aIf_split (fun _ => ?_) (fun _ => ?_)) | (with_reducible refine aSel_split (fun _ => ?_) (fun _ => ?_)) | (with_reducible refine aGd_split (fun _ => ?_) (fun _ => ?_)) | (with_reducible refine aDraw_quiet (by kernel_rfl) ?_) | (with_reducible apply And.intro)))
    all_goals first
      | rfl
      | omega
      | exact roundI (weak_ren1 [2] ⟨(by decide), (by (first | ((simp only [envInR, tabInR, envLt, tabLt, AObj.lt, AV.lt, AV.ren, AObj.ren, List.getD_cons_zero, List.length_cons, List.length_nil, ruW, ASt.get, aget, ↓reduceIte, reduceCtorEq, Nat.reduceLT, Nat.reduceEqDiff, Nat.reduceAdd, eq_self, hsn]) <;> (repeat' apply And.intro) <;> first | (rw [wrapK (by omega)]; done) | (simp; done) | omega) | fail))⟩) ⟨k + 1, by omega, rfl⟩ (by simp only [slotN, ruW, ASt.get, aget, ↓reduceIte, Nat.reduceLT, Nat.reduceEqDiff, eq_self]; omega)
      | trace_state
  · obtain rfl : k = sc.length := by omega
    have hmin : min (vals.length : Int) 31 = (vals.length : Int) := by omega
    have hdt : List.drop (Int.toNat 0) (List.take vals.length (vals.map fun n => [eI n])) = vals.map fun n => [eI n] := by
      show List.drop 0 _ = _
      rw [List.drop_zero, List.take_of_length_le (by simp)]
    (repeat' (first | simp (maxSteps := 5000000) (implicitDefEqProofs := false) only [ruA, ruB, aEv, aLen, aBin, bin2, ASt.get, aget, ASt.put, ↓reduceIte, reduceCtorEq, Nat.reduceLT, Nat.reduceEqDiff, eq_self, ne_eq, aSliceW, aSlice, aSliceR, aBd, aMM, tyE_34, hlt, hmin] | (with_reducible refine aIf_split (fun _ => ?_) (fun _ => ?_)) | (with_reducible refine aSel_split (fun _ => ?_) (fun _ => ?_)) | (with_reducible refine aGd_split (fun _ => ?_) (fun _ => ?_)) | (with_reducible refine aDraw_quiet (by kernel_rfl) ?_)))
    refine aLoop_of (fun st => ∃ k : Nat, k ≤ vals.length ∧ st = ⟨93, [(5, .osl 0), (34, sI vals), (35, eI (vals.length : Int)), (36, eI (k : Int))], [(0, some (.row 95 3 ((ptsC sc sc.length ++ ptsV vals sc.length k).map encP)))], 1⟩) (fun st => vals.length - slotN st 36) ⟨_, (weak_cut1 (by (first | ((simp only [envIn, tabIn, envLt, tabLt, AObj.lt, AV.lt, ruW, ASt.get, aget, ↓reduceIte, Nat.reduceLT, Nat.reduceEqDiff, eq_self, ptsV, List.range_zero, hdt, List.length_map]) <;> (repeat' apply And.intro) <;> first | (rw [wrapK (by omega)]; done) | (simp; done) | omega) | fail))), 0, Nat.zero_le _, rfl⟩ ?_
    rintro _ ⟨k, hk, rfl⟩
    by_cases hlt : k < vals.length
    · have hg : vals.getD k 0 = vals[k] := by rw [List.getD_eq_getElem?_getD, List.getElem?_eq_getElem hlt]; rfl
      have hsn : (ptsC sc sc.length ++ ptsV vals sc.length (k + 1)).map encP = (ptsC sc sc.length ++ ptsV vals sc.length k).map encP ++ [[eI vals[k], eI (withB 0 (k : Int)), eI (-1)]] := by
        rw [ptsV_snoc, ← List.append_assoc, List.map_append, hg]
        rfl
      have hpl : (ptsC sc sc.length ++ ptsV vals sc.length k).length = sc.length + k := by rw [List.length_append, ptsC_len, ptsV_len]
      have hB := bitsOf_A (k : Int)
      (repeat' (first | simp (maxSteps := 5000000) (implicitDefEqProofs := false) only [ruA, ruB, aEv, aTake, aLoad, aIndex, aBin, bin2, ASt.get, aget, ASt.put, aAppend, aBuildSlice, aBuild, aFill, oneParts, aCells, oneC, oneCL, treeC, treeL, aLit, aDst, aSrc, appTab, Value.cells, Value.oneCell', ↓reduceIte, reduceCtorEq, Nat.reduceLT, Nat.reduceEqDiff, Nat.reduceAdd, Nat.reduceMul, Nat.reduceLeDiff, eq_self, aBuildSlice1, frzs, ownIds, tyE_34, tyA_2, tyS_2, tyB_46, tyB_95, tyR_92, tyR_23, row_at, hlt] | (with_reducible refine aIf_split (fun _ => ?_) (fun _ => ?_)) | (with_reducible refine aSel_split (fun _ => ?_) (fun _ => ?_)) | (with_reducible refine aGd_split (fun _ => ?_) (fun _ => ?_)) | (with_reducible refine aDraw_quiet (by kernel_rfl) ?_) | ((with_reducible apply callV); exact (hB)) | ((with_reducible apply callD); exact (hB)) | (with_reducible apply And.intro)))
      all_goals first
        | rfl
        | omega
        | exact roundI (weak_ren1 [3] ⟨(by decide), (by (first | ((simp only [envInR, tabInR, envLt, tabLt, AObj.lt, AV.lt, AV.ren, AObj.ren, List.getD_cons_zero, List.length_cons, List.length_nil, ruW, ASt.get, aget, ↓reduceIte, Nat.reduceLT, Nat.reduceEqDiff, Nat.reduceAdd, eq_self, hsn]) <;> (repeat' apply And.intro) <;> first | (rw [wrapK (by omega)]; done) | (simp; done) | omega) | fail))⟩) ⟨k + 1, by omega, rfl⟩ (by simp only [slotN, ruW, ASt.get, aget, ↓reduceIte, Nat.reduceLT, Nat.reduceEqDiff, eq_self]; omega)
        | trace_state
    · obtain rfl : k = vals.length := by omega
      (repeat' (first | simp (maxSteps := 5000000) (implicitDefEqProofs := false) only [ruA, ruB, aEv, aBin, bin2, ASt.get, aget, ASt.put, ↓reduceIte, Nat.reduceLT, Nat.reduceEqDiff, eq_self, hlt] | (with_reducible refine aIf_split (fun _ => ?_) (fun _ => ?_)) | (with_reducible refine aSel_split (fun _ => ?_) (fun _ => ?_)) | (with_reducible refine aGd_split (fun _ => ?_) (fun _ => ?_))))
      have hM := (sortStable_M _ points1_A (ptsC sc sc.length ++ ptsV vals sc.length vals.length) htg (by rw [List.length_append, ptsC_len, ptsV_len]; omega)).fn1
      have hSs : Srt (srt (ptsL vals sc)) := srt_sorted htg.dt
      have hSl : (srt (ptsL vals sc)).length ≤ 1100 := by
        rw [srt_len]
        unfold ptsL
        rw [List.length_append, ptsC_len, ptsV_len]
        omega
      have hSa : ∀ p ∈ srt (ptsL vals sc), orI 0 p.a = p.a := fun p hp => hpa p (srt_mem.1 hp)
      rw [show ptsC sc sc.length ++ ptsV vals sc.length vals.length = ptsL vals sc from rfl] at hM ⊢
      refine callM hM (by simp [ATab.get_cons]) (by simp [treeML, treeM, treeC]) ?_
      clear hM hpa htg
      generalize ptsL vals sc = l0 at *
      generalize srt l0 = S at *
      (repeat' (first | simp (maxSteps := 5000000) (implicitDefEqProofs := false) only [ruA, ruB, aEv, aLen, ASt.get, aget, ASt.put, ↓reduceIte, Nat.reduceLT, Nat.reduceEqDiff, eq_self, ne_eq, tyE_92] | (with_reducible refine aIf_split (fun _ => ?_) (fun _ => ?_)) | (with_reducible refine aSel_split (fun _ => ?_) (fun _ => ?_)) | (with_reducible refine aGd_split (fun _ => ?_) (fun _ => ?_)) | (with_reducible refine aDraw_quiet (by kernel_rfl) ?_)))
      refine aLoop_of (fun st => ∃ (k : Nat) (o : List Int), k ≤ S.length ∧ Outs (S.take k) o ∧ o.length ≤ k ∧ st = ⟨93, [(10, .osl 1), (53, .osl 0), (54, eI (S.length : Int)), (55, eI (k : Int))], [(0, some (.row 95 3 (S.map encP))), (1, some (.row 95 3 ((o.map (valP (S.take k))).map encP)))], 2⟩) (fun st => S.length - slotN st 55) ⟨_, ((weak_nil 10 95 3 (by simp only [ASt.get, aget, ↓reduceIte, Nat.reduceLT, Nat.reduceEqDiff, eq_self])).trans (weak_ren1 [0, 1] ⟨(by decide), (by (first | ((simp only [envInR, tabInR, envLt, tabLt, AObj.lt, AV.lt, AV.ren, AObj.ren, List.getD_cons_zero, List.getD_cons_succ, List.length_cons, List.length_nil, ruW, ASt.get, aget, ↓reduceIte, reduceCtorEq, Nat.reduceLT, Nat.reduceEqDiff, Nat.reduceAdd, eq_self]) <;> (repeat' apply And.intro) <;> first | (rw [wrapK (by omega)]; done) | (simp; done) | omega) | fail))⟩)), 0, [], Nat.zero_le _, ⟨List.Pairwise.nil, by simp⟩, Nat.le_refl _, rfl⟩ ?_
      rintro _ ⟨k, o, hk, ho, hol, rfl⟩
      by_cases hlt2 : k < S.length
      · have htk : S.take (k + 1) = S.take k ++ [S[k]] := List.take_succ_eq_append_getElem hlt2
        have hpa := hSa S[k] (List.getElem_mem hlt2)
        rcases outs_last hSs hlt2 ho with ⟨o1, rfl, hmax⟩ | hmax
        · have hO := outs_same ho
          have hmp := map_same ho hmax
          rw [← htk] at hO hmp
          have hst : (((o1 ++ [S[k].n]).map (valP (S.take k))).map encP).set o1.length [eI S[k].n, eI (bits .or .i64 (valP (S.take k) S[k].n).a S[k].a), eI (valP (S.take k) S[k].n).c] = ((o1 ++ [S[k].n]).map (valP (S.take (k + 1)))).map encP := by
            rw [hmp, List.map_append, List.map_singleton, List.map_append, List.map_append, List.map_singleton]
            rw [List.set_append_right _ _ (by simp)]
            simp
            rfl
          obtain ⟨hi, hyi⟩ := getEl (show ((o1 ++ [S[k].n]).map (valP (S.take k)))[o1.length]? = some (valP (S.take k) S[k].n) from by rw [List.map_append]; exact get_mid (by simp))
          have hyn : (valP (S.take k) S[k].n).n = S[k].n := rfl
          have hql : ((o1 ++ [S[k].n]).map (valP (S.take k))).length = o1.length + 1 := by simp
          have ho1 : o1.length < k := by rw [List.length_append] at hol; simp at hol; omega
          clear hmp ho hSa hSs
          generalize valP (S.take k) S[k].n = y at *
          generalize (o1 ++ [S[k].n]).map (valP (S.take k)) = q at *
          generalize hxk : S[k] = x at *
          have e1 : IntKind.i64.wrap (((q.length : Nat) : Int) - 1) = (o1.length : Int) := by rw [wrap_in (by omega) (by omega)]; omega
          have d1 : decide ((0 : Int) ≤ (o1.length : Int)) = true := by simp
          have d2 : (y.n == x.n) = true := by rw [hyn]; simp
          (repeat' (first | simp (maxSteps := 5000000) (implicitDefEqProofs := false) only [ruA, ruB, aEv, aTake, aLoad, aIndex, aLen, aBin, bin2, ASt.get, aget, ASt.put, aStore, aBox, aCells, oneC, oneCL, Value.cells, Value.oneCell', ↓reduceIte, Nat.reduceLT, Nat.reduceEqDiff, Nat.reduceAdd, eq_self, ne_eq, tyE_92, tyA_95, tyS_95, tyZ_95, row_at, hlt2, hxk, encP, e1] | (with_reducible refine aIf_split (fun _ => ?_) (fun _ => ?_)) | (with_reducible refine aSel_split (fun _ => ?_) (fun _ => ?_)) | (with_reducible refine aGd_split (fun _ => ?_) (fun _ => ?_))))
          refine aDraw_quiet (by kernel_rfl) ?_
          (repeat' (first | simp (maxSteps := 5000000) (implicitDefEqProofs := false) only [ruA, ruB, aEv, aTake, aLoad, aField, aIndex, aBin, bin2, ASt.get, aget, ASt.put, ↓reduceIte, reduceCtorEq, Nat.reduceLT, Nat.reduceEqDiff, Nat.reduceAdd, Nat.reduceLeDiff, eq_self, tyA_2, tyS_2, tyE_92, tyF_95_0, row_at, hi, hyi, encP, d2] | (with_reducible refine aIf_split (fun _ => ?_) (fun _ => ?_)) | (with_reducible refine aSel_split (fun _ => ?_) (fun _ => ?_)) | (with_reducible refine aGd_split (fun _ => ?_) (fun _ => ?_))))
          refine aDraw_held [1] [0, 1, 2, 3, 4, 6, 7, 8] (.exec 5 (.take 9 (.take 10 (.take 11 (.take 12 (.exec 13 .done)))))) (by kernel_rfl) (by simp [ATab.get_cons]) ?_
          (repeat' (first | simp (maxSteps := 5000000) (implicitDefEqProofs := false) only [ruA, ruB, aEv, aTake, aLoad, aField, aIndex, aBin, bin2, ASt.get, aget, ASt.put, aCells, oneC, oneCL, treeC, treeL, Value.cells, Value.oneCell', ↓reduceIte, reduceCtorEq, Nat.reduceLT, Nat.reduceEqDiff, Nat.reduceAdd, Nat.reduceLeDiff, eq_self, aExecS, aStoreB, aTakes, aTakeE, aFrom, aMay, tyE_92, tyF_95_1, tyF_46_0, tyA_3, tyS_3, row_at, hi, hyi, encP] | (with_reducible refine aIf_split (fun _ => ?_) (fun _ => ?_)) | (with_reducible refine aSel_split (fun _ => ?_) (fun _ => ?_)) | (with_reducible refine aGd_split (fun _ => ?_) (fun _ => ?_)) | (with_reducible refine aDraw_quiet (by kernel_rfl) ?_) | (with_reducible apply And.intro)))
          all_goals first
            | rfl
            | omega
            | exact roundI (weak_ren1 [0, 1] ⟨(by decide), (by (first | ((simp only [envInR, tabInR, envLt, tabLt, AObj.lt, AV.lt, AV.ren, AObj.ren, List.getD_cons_zero, List.getD_cons_succ, List.length_cons, List.length_nil, ruW, ASt.get, aget, ↓reduceIte, reduceCtorEq, Nat.reduceLT, Nat.reduceEqDiff, Nat.reduceAdd, eq_self, hyn, hst]) <;> (repeat' apply And.intro) <;> first | (rw [wrapK (by omega)]; done) | (simp; done) | omega) | fail))⟩) ⟨k + 1, o1 ++ [x.n], by omega, hO, by omega, rfl⟩ (by simp only [slotN, ruW, ASt.get, aget, ↓reduceIte, Nat.reduceLT, Nat.reduceEqDiff, eq_self]; omega)
            | trace_state
        · have hO := outs_new ho hmax
          have hmp := map_new ho hmax hpa
          rw [← htk] at hO hmp
          have hst : ((o ++ [S[k].n]).map (valP (S.take (k + 1)))).map encP = (o.map (valP (S.take k))).map encP ++ [[eI S[k].n, eI S[k].a, eI S[k].c]] := by
            rw [hmp, List.map_append]
            rfl
          have hql : (o.map (valP (S.take k))).length = o.length := List.length_map ..
          have hol2 : (o ++ [S[k].n]).length ≤ k + 1 := by simp; omega
          rcases List.eq_nil_or_concat o with rfl | ⟨o1, z, rfl⟩
          · clear hSa hSs hmp
            generalize hxk : S[k] = x at *
            have hst2 : encP (valP (S.take (k + 1)) x.n) = [eI x.n, eI x.a, eI x.c] := by simpa using hst
            have e1 : IntKind.i64.wrap (((0 : Nat) : Int) - 1) = -1 := by decide
            have d1 : decide ((0 : Int) ≤ -1) = false := by decide
            (repeat' (first | simp (maxSteps := 5000000) (implicitDefEqProofs := false) only [ruA, ruB, aEv, aTake, aLoad, aIndex, aLen, aBin, bin2, ASt.get, aget, ASt.put, aStore, aBox, aCells, oneC, oneCL, Value.cells, Value.oneCell', ↓reduceIte, Nat.reduceLT, Nat.reduceEqDiff, Nat.reduceAdd, eq_self, ne_eq, tyE_92, tyA_95, tyS_95, tyZ_95, row_at, hlt2, hxk, encP, e1] | (with_reducible refine aIf_split (fun _ => ?_) (fun _ => ?_)) | (with_reducible refine aSel_split (fun _ => ?_) (fun _ => ?_)) | (with_reducible refine aGd_split (fun _ => ?_) (fun _ => ?_))))
            refine aDraw_quiet (by kernel_rfl) ?_
            (repeat' (first | simp (maxSteps := 5000000) (implicitDefEqProofs := false) only [ruA, ruB, aEv, aTake, aLoad, aBin, bin2, ASt.get, aget, ASt.put, aAppend, aBuildSlice, aCells, oneC, oneCL, treeC, treeL, aLit, aDst, aSrc, appTab, Value.cells, Value.oneCell', ↓reduceIte, Nat.reduceLT, Nat.reduceEqDiff, Nat.reduceAdd, Nat.reduceMul, Nat.reduceLeDiff, eq_self, aBuildSlice1, frzs, ownIds, tyR_92, tyA_95, tyS_95, d1] | (with_reducible refine aIf_split (fun _ => ?_) (fun _ => ?_)) | (with_reducible refine aSel_split (fun _ => ?_) (fun _ => ?_)) | (with_reducible refine aGd_split (fun _ => ?_) (fun _ => ?_)) | (with_reducible refine aDraw_quiet (by kernel_rfl) ?_) | (with_reducible apply And.intro)))
            · rfl
            all_goals first
              | exact roundI (weak_ren1 [0, 4] ⟨(by decide), (by (first | ((simp only [envInR, tabInR, envLt, tabLt, AObj.lt, AV.lt, AV.ren, AObj.ren, List.getD_cons_zero, List.getD_cons_succ, List.length_cons, List.length_nil, ruW, ASt.get, aget, ↓reduceIte, reduceCtorEq, Nat.reduceLT, Nat.reduceEqDiff, Nat.reduceAdd, eq_self, hst2]) <;> (repeat' apply And.intro) <;> first | (rw [wrapK (by omega)]; done) | (simp; done) | omega) | fail))⟩) ⟨k + 1, [x.n], by omega, hO, by simp, rfl⟩ (by simp only [slotN, ruW, ASt.get, aget, ↓reduceIte, Nat.reduceLT, Nat.reduceEqDiff, eq_self]; omega)
          · have hz : z < S[k].n := hmax z (by simp)
            have hcl : (o1.concat z).length = o1.length + 1 := by simp
            obtain ⟨hi, hyi⟩ := getEl (show ((o1.concat z).map (valP (S.take k)))[o1.length]? = some (valP (S.take k) z) from by rw [List.concat_eq_append, List.map_append]; exact get_mid (by simp))
            have hyn : (valP (S.take k) z).n = z := rfl
            clear hSa hSs hmp
            generalize valP (S.take k) z = y at *
            generalize (o1.concat z).map (valP (S.take k)) = q at *
            generalize o1.concat z = o at *
            generalize hxk : S[k] = x at *
            have e1 : IntKind.i64.wrap (((q.length : Nat) : Int) - 1) = (o1.length : Int) := by rw [wrap_in (by omega) (by omega)]; omega
            have d1 : decide ((0 : Int) ≤ (o1.length : Int)) = true := by simp
            have d2 : (y.n == x.n) = false := by rw [hyn]; simp; omega
            (repeat' (first | simp (maxSteps := 5000000) (implicitDefEqProofs := false) only [ruA, ruB, aEv, aTake, aLoad, aIndex, aLen, aBin, bin2, ASt.get, aget, ASt.put, aStore, aBox, aCells, oneC, oneCL, Value.cells, Value.oneCell', ↓reduceIte, Nat.reduceLT, Nat.reduceEqDiff, Nat.reduceAdd, eq_self, ne_eq, tyE_92, tyA_95, tyS_95, tyZ_95, row_at, hlt2, hxk, encP, e1] | (with_reducible refine aIf_split (fun _ => ?_) (fun _ => ?_)) | (with_reducible refine aSel_split (fun _ => ?_) (fun _ => ?_)) | (with_reducible refine aGd_split (fun _ => ?_) (fun _ => ?_))))
            refine aDraw_quiet (by kernel_rfl) ?_
            (repeat' (first | simp (maxSteps := 5000000) (implicitDefEqProofs := false) only [ruA, ruB, aEv, aTake, aLoad, aField, aIndex, aBin, bin2, ASt.get, aget, ASt.put, aAppend, aBuildSlice, aCells, oneC, oneCL, treeC, treeL, aLit, aDst, aSrc, appTab, Value.cells, Value.oneCell', ↓reduceIte, reduceCtorEq, Nat.reduceLT, Nat.reduceEqDiff, Nat.reduceAdd, Nat.reduceMul, Nat.reduceLeDiff, eq_self, aBuildSlice1, frzs, ownIds, tyA_2, tyS_2, tyR_92, tyE_92, tyA_95, tyS_95, tyF_95_0, row_at, hi, hyi, encP, d2] | (with_reducible refine aIf_split (fun _ => ?_) (fun _ => ?_)) | (with_reducible refine aSel_split (fun _ => ?_) (fun _ => ?_)) | (with_reducible refine aGd_split (fun _ => ?_) (fun _ => ?_)) | (with_reducible refine aDraw_quiet (by kernel_rfl) ?_) | (with_reducible apply And.intro)))
            all_goals first
              | rfl
              | omega
              | exact roundI (weak_ren1 [0, 4] ⟨(by decide), (by (first | ((simp only [envInR, tabInR, envLt, tabLt, AObj.lt, AV.lt, AV.ren, AObj.ren, List.getD_cons_zero, List.getD_cons_succ, List.length_cons, List.length_nil, ruW, ASt.get, aget, ↓reduceIte, reduceCtorEq, Nat.reduceLT, Nat.reduceEqDiff, Nat.reduceAdd, eq_self, hst]) <;> (repeat' apply And.intro) <;> first | (rw [wrapK (by omega)]; done) | (simp; done) | omega) | fail))⟩) ⟨k + 1, o ++ [x.n], by omega, hO, hol2, rfl⟩ (by simp only [slotN, ruW, ASt.get, aget, ↓reduceIte, Nat.reduceLT, Nat.reduceEqDiff, eq_self]; omega)
              | trace_state
      · obtain rfl : k = S.length := by omega
        rw [List.take_length] at ho ⊢
        rw [hfin2 o ho]
        (repeat' (first | simp (maxSteps := 5000000) (implicitDefEqProofs := false) only [ruA, ruB, aEv, aBin, bin2, ASt.get, aget, ASt.put, aResL, aOne, ↓reduceIte, Nat.reduceLT, Nat.reduceEqDiff, eq_self, hlt2] | (with_reducible refine aIf_split (fun _ => ?_) (fun _ => ?_)) | (with_reducible refine aSel_split (fun _ => ?_) (fun _ => ?_)) | (with_reducible refine aGd_split (fun _ => ?_) (fun _ => ?_)) | (with_reducible refine aDraw_quiet (by kernel_rfl) ?_)))
        all_goals exact aGives_own (by simp [ATab.get_cons])
end
section
open Go.RowKit
theorem halveCap_A (r : Int) : ADet Tryz.prog 39 [eI r] (val (.int .i64 (capV r))) := by
  refine adet_of_code mixedT Tryz.func39 rfl (by decide) Tryz.ntmps39 Tryz.results39 rfl (val_ok _) ?_
  have e0 : (max 0 (min r 20)).toNat = min r.toNat 20 := by omega
  have h0 : ¬ (max 0 (min r 20) < 0) := by omega
  have h2 : (max 0 (min r 20)).toNat ≤ 20 := by omega
  have h1 : min (max 0 (min r 20)).toNat IntKind.i64.bits = (max 0 (min r 20)).toNat := by
    have : IntKind.i64.bits = 64 := rfl
    omega
  have hp : (1 : Int) ≤ 2 ^ (max 0 (min r 20)).toNat ∧ (2 : Int) ^ (max 0 (min r 20)).toNat ≤ 1048576 := by
    have h3 : 2 ^ (max 0 (min r 20)).toNat ≤ 2 ^ 20 := Nat.pow_le_pow_right (by omega) h2
    have h4 : 1 ≤ 2 ^ (max 0 (min r 20)).toNat := Nat.one_le_two_pow
    have e : (2 : Int) ^ (max 0 (min r 20)).toNat = ((2 ^ (max 0 (min r 20)).toNat : Nat) : Int) := by simp
    rw [e]
    omega
  have w1 : IntKind.i64.wrap (1 * 2 ^ (max 0 (min r 20)).toNat) = 2 ^ (max 0 (min r 20)).toNat := by
    rw [Int.one_mul]
    exact wrap_in (by omega) (by omega)
  have w2 : IntKind.i64.wrap (2 ^ (max 0 (min r 20)).toNat - 1) = 2 ^ (max 0 (min r 20)).toNat - 1 := wrap_in (by omega) (by omega)
  unfold capV
  rw [← e0]
  (repeat' (first | simp (maxSteps := 5000000) (implicitDefEqProofs := false) only [ruA, aEv, aBin, bin2, ASt.get, aget, ASt.put, envOf, aResL, aOne, ↓reduceIte, reduceCtorEq, Nat.reduceLT, eq_self, aMM, h0, h1, w1, w2] | (with_reducible refine aIf_split (fun _ => ?_) (fun _ => ?_)) | (with_reducible refine aSel_split (fun _ => ?_) (fun _ => ?_)) | (with_reducible refine aGd_split (fun _ => ?_) (fun _ => ?_))))
theorem wrapu64 (x : Int) : IntKind.u64.wrap x = x % 18446744073709551616 := by
  simp [IntKind.wrap, IntKind.bits, IntKind.signed]
theorem numGap_A (a b m : Int) (ha : ok64 a) (hb : ok64 b) (hm : ok64 m) : ADet Tryz.prog 47 [eI a, eI b, eI m] (val (.int .i64 (gapV a b m))) := by
  refine adet_of_code mixedT Tryz.func47 rfl (by decide) Tryz.ntmps47 Tryz.results47 rfl (val_ok _) ?_
  unfold ok64 at ha hb hm
  by_cases h1 : m ≤ 0
  · have d1 : decide (m ≤ 0) = true := by simpa using h1
    have e : gapV a b m = 0 := by unfold gapV; omega
    rw [e]
    (repeat' (first | simp (maxSteps := 5000000) (implicitDefEqProofs := false) only [ruA, ruB, aEv, aBin, bin2, ASt.get, aget, ASt.put, envOf, aResL, aOne, ↓reduceIte, Nat.reduceLT, Nat.reduceEqDiff, Nat.reduceAdd, eq_self, d1] | (with_reducible refine aIf_split (fun _ => ?_) (fun _ => ?_)) | (with_reducible refine aSel_split (fun _ => ?_) (fun _ => ?_)) | (with_reducible refine aGd_split (fun _ => ?_) (fun _ => ?_)) | (with_reducible refine aDraw_quiet (by kernel_rfl) ?_)))
  · have d1 : decide (m ≤ 0) = false := by simpa using h1
    by_cases h2 : b ≤ a
    · have d2 : decide (b ≤ a) = true := by simpa using h2
      have e : gapV a b m = 0 := by unfold gapV; omega
      rw [e]
      (repeat' (first | simp (maxSteps := 5000000) (implicitDefEqProofs := false) only [ruA, ruB, aEv, aBin, bin2, ASt.get, aget, ASt.put, envOf, aResL, aOne, ↓reduceIte, reduceCtorEq, Nat.reduceLT, Nat.reduceEqDiff, Nat.reduceAdd, eq_self, d1, d2] | (with_reducible refine aIf_split (fun _ => ?_) (fun _ => ?_)) | (with_reducible refine aSel_split (fun _ => ?_) (fun _ => ?_)) | (with_reducible refine aGd_split (fun _ => ?_) (fun _ => ?_)) | (with_reducible refine aDraw_quiet (by kernel_rfl) ?_)))
    · have d2 : decide (b ≤ a) = false := by simpa using h2
      have e1 : IntKind.u64.wrap (IntKind.u64.wrap (IntKind.u64.wrap b - IntKind.u64.wrap a) - 1) = b - a - 1 := by
        rw [wrapu64, wrapu64, wrapu64, wrapu64]
        omega
      have e2 : IntKind.u64.wrap m = m := by rw [wrapu64]; omega
      have e3 : IntKind.i64.wrap (min (b - a - 1) m) = gapV a b m := by unfold gapV; rw [wrap_in (by omega) (by omega)]; omega
      (repeat' (first | simp (maxSteps := 5000000) (implicitDefEqProofs := false) only [ruA, ruB, aEv, aBin, bin2, aConv, ASt.get, aget, ASt.put, envOf, aResL, aOne, ↓reduceIte, reduceCtorEq, Nat.reduceLT, Nat.reduceEqDiff, Nat.reduceAdd, eq_self, aMM, tyI_2, tyI_107, tyI_3, d1, d2, e1, e2, e3] | (with_reducible refine aIf_split (fun _ => ?_) (fun _ => ?_)) | (with_reducible refine aSel_split (fun _ => ?_) (fun _ => ?_)) | (with_reducible refine aGd_split (fun _ => ?_) (fun _ => ?_)) | (with_reducible refine aDraw_quiet (by kernel_rfl) ?_)))
theorem capV_0 (r : Int) : 0 ≤ capV r := by
  have h1 : 1 ≤ (2 : Nat) ^ (min r.toNat 20) := Nat.one_le_two_pow
  have h2 : ((2 ^ (min r.toNat 20) : Nat) : Int) = (2 : Int) ^ (min r.toNat 20) := by simp
  unfold capV
  omega
/-- the first k gaps are told -/
def gapsK (L : List Int) (r : Int) (k : Nat) : List Int := (List.range (L.length - 1)).map fun i => if i < k then gapV (L.getD i 0) (L.getD (i + 1) 0) (capV r) else 0
theorem gapsK_len (L : List Int) (r : Int) (k : Nat) : (gapsK L r k).length = L.length - 1 := by simp [gapsK]
theorem gapsK_0 (L : List Int) (r : Int) : gapsK L r 0 = List.replicate (L.length - 1) 0 := by
  apply List.ext_getElem
  · simp [gapsK]
  · intro i h1 h2
    simp [gapsK]
theorem gapsK_all (L : List Int) (r : Int) : gapsK L r (L.length - 1) = gapsN L r L.length := by
  unfold gapsK gapsN
  refine List.map_congr_left fun i hi => ?_
  rw [if_pos (by simpa using hi)]
theorem gapsK_set (L : List Int) (r : Int) {k : Nat} (hk : k < L.length - 1) : (gapsK L r k).set k (gapV (L.getD k 0) (L.getD (k + 1) 0) (capV r)) = gapsK L r (k + 1) := by
  apply List.ext_getElem
  · simp [gapsK]
  · intro i h1 h2
    rw [List.getElem_set]
    simp only [gapsK, List.getElem_map, List.getElem_range]
    by_cases h : k = i
    · subst h
      rw [if_pos rfl, if_pos (by omega)]
    · rw [if_neg h]
      by_cases h3 : i < k
      · rw [if_pos h3, if_pos (by omega)]
      · rw [if_neg h3, if_neg (by omega)]
set_option maxRecDepth 100000 in
set_option maxHeartbeats 16000000 in
theorem zoneOfC_A (vals c : List Int) (r : Int) (h1 : vals.length ≤ 31) (h2 : c.length ≤ 400) (hv : ∀ x ∈ vals, ok64 x) (hc : ∀ x ∈ c, ok64 x) : ADet Tryz.prog 31 [sI vals, sI c, eI r] ⟨.agg (eZn (zoneM vals c r)), [], 0⟩ := by
  refine ADet.still (R := ⟨.agg [.osl 0, .osl 1], [(0, some (.row 46 2 ((clsL vals c).map eCls))), (1, some (.row 3 1 ((gapsN (numsL vals c) r (numsL vals c).length).map fun n => [eI n])))], 2⟩) [0, 1] ?_ (by simp [Res.frzs, Res.frz, ATab.get_cons, AV.frz, AV.frzL, frzTab, AObj.frz, zoneM]) (by simp [AV.lt, AV.ltL])
  refine adet_of_code mixedT Tryz.func31 rfl (by decide) Tryz.ntmps31 Tryz.results31 rfl (tab_ok (by simp [tabLt, AObj.lt]) (by simp [AV.lt, AV.ltL])) ?_
  have hP := points_A vals c h1 (by omega)
  have hLlen : (numsL vals c).length ≤ 431 := by have := sortR_len (vals ++ c); simp at this; unfold numsL; omega
  have hLok : ∀ x ∈ numsL vals c, ok64 x := fun x hx => by
    have := ((sortR_up (vals ++ c)).2 x).1 hx
    rcases List.mem_append.1 this with h | h
    · exact hv x h
    · exact hc x h
  have hcls : clsL vals c = (numsL vals c).map (clsOf vals c) := rfl
  rw [hcls]
  obtain ⟨cf, hcf⟩ : ∃ f, clsOf vals c = f := ⟨_, rfl⟩
  obtain ⟨L, hL⟩ : ∃ l, numsL vals c = l := ⟨_, rfl⟩
  rw [hcf, hL] at hP ⊢
  rw [hL] at hLlen hLok
  clear hcls hcf hL
  obtain ⟨pf, hpf⟩ : ∃ f, (fun n => encP ⟨n, (cf n).attrs, (cf n).const, 0⟩) = f := ⟨_, rfl⟩
  rw [hpf] at hP
  have hpe : ∀ n, pf n = [eI n, eI (cf n).attrs, eI (cf n).const] := fun n => by rw [← hpf]; rfl
  clear hpf
  have hpp : ∀ row ∈ L.map pf, ∀ av ∈ row, av.plain := fun row hr av ha => by
    obtain ⟨n, _, rfl⟩ := List.mem_map.1 hr
    rw [hpe] at ha
    simp at ha
    rcases ha with rfl | rfl | rfl <;> simp [AV.plain]
  (repeat' (first | simp (maxSteps := 5000000) (implicitDefEqProofs := false) only [ruA, ruB, aEv, ASt.get, aget, ASt.put, aBox, aCells, oneC, oneCL, Value.cells, Value.oneCell', envOf, ↓reduceIte, reduceCtorEq, Nat.reduceLT, Nat.reduceEqDiff, Nat.reduceAdd, eq_self, tyZ_25] | (with_reducible refine aIf_split (fun _ => ?_) (fun _ => ?_)) | (with_reducible refine aSel_split (fun _ => ?_) (fun _ => ?_)) | (with_reducible refine aGd_split (fun _ => ?_) (fun _ => ?_))))
  refine callO hP (.inr hpp) ?_
  (repeat' (first | simp (maxSteps := 5000000) (implicitDefEqProofs := false) only [ruA, ruB, aEv, aLen, ASt.get, aget, ASt.put, ↓reduceIte, Nat.reduceLT, Nat.reduceAdd, eq_self, ne_eq, tyE_92] | (with_reducible refine aIf_split (fun _ => ?_) (fun _ => ?_)) | (with_reducible refine aSel_split (fun _ => ?_) (fun _ => ?_)) | (with_reducible refine aGd_split (fun _ => ?_) (fun _ => ?_))))
  refine aLoop_of (fun st => ∃ k : Nat, k ≤ L.length ∧ st = ⟨65, [(0, sI vals), (1, sI c), (2, eI r), (6, .op 0 0 0), (7, .op 1 0 0), (14, .osl 2), (15, eI (L.length : Int)), (16, eI (k : Int))], [(0, some (.box 25 [.c (.slice none 0 0), .c (.slice none 0 0)])), (1, some (.box 25 [.osl 3, .osl 4])), (2, some (.row 95 3 (L.map pf))), (3, some (.row 46 2 ((L.take k).map fun n => eCls (cf n)))), (4, some (.row 3 1 ((List.replicate (k - 1) (0 : Int)).map fun n => [eI n])))], 5⟩) (fun st => L.length - slotN st 16)
    ⟨_, ((weak_nilbox 1 0 46 2 (t := 25) (cells := [.c (.slice none 0 0), .c (.slice none 0 0)]) (by simp [ATab.get_cons]) rfl).trans ((weak_nilbox 1 1 3 1 (t := 25) (cells := [.osl 3, .c (.slice none 0 0)]) (by simp [ATab.get_cons]) rfl).trans (weak_cut1 (by (first | ((simp only [envIn, tabIn, envLt, tabLt, AObj.lt, AV.lt, AV.ltL, ruW, ASt.get, aget, ↓reduceIte, reduceCtorEq, Nat.reduceLT, Nat.reduceEqDiff, Nat.reduceAdd, eq_self, List.set_cons_zero, List.set_cons_succ, List.take_zero, List.replicate_zero, Nat.zero_sub]) <;> (repeat' apply And.intro) <;> first | (rw [wrapK (by omega)]; done) | (simp; done) | omega) | fail))))), 0, Nat.zero_le _, rfl⟩ ?_
  rintro _ ⟨k, hk, rfl⟩
  by_cases hlt : k < L.length
  · obtain ⟨n, hn⟩ : ∃ n, L[k] = n := ⟨_, rfl⟩
    have hpn := hpe n
    have hsn : (L.take (k + 1)).map (fun n => eCls (cf n)) = (L.take k).map (fun n => eCls (cf n)) ++ [[eI (cf n).attrs, eI (cf n).const]] := by rw [take_snoc _ L hlt, hn]
    have htl : (L.take k).length ≤ 431 := by rw [List.length_take]; omega
    cases k with
    | zero =>
      have d1 : decide (0 < ((0 : Nat) : Int)) = false := by decide
      have d2 : decide (0 < 0) = false := by decide
      (repeat' (first | simp (maxSteps := 5000000) (implicitDefEqProofs := false) only [ruA, ruB, aEv, aTake, aLoad, aField, aIndex, aBin, bin2, ASt.get, aget, ASt.put, aStore, aBox, aAppend, aBuildSlice, aCells, oneC, oneCL, treeC, treeL, aLit, aDst, aSrc, appTab, Value.cells, Value.oneCell', ↓reduceIte, reduceCtorEq, Nat.reduceLT, Nat.reduceEqDiff, Nat.reduceAdd, Nat.reduceMul, Nat.reduceSub, Nat.reduceLeDiff, eq_self, aBuildSlice1, frzs, ownIds, tyE_92, tyA_95, tyS_95, tyZ_95, tyF_25_0, tyA_22, tyS_22, tyF_95_1, tyA_46, tyS_46, tyR_22, row_at, hlt, hn, hpn, d1] | (with_reducible refine aIf_split (fun _ => ?_) (fun _ => ?_)) | (with_reducible refine aSel_split (fun _ => ?_) (fun _ => ?_)) | (with_reducible refine aGd_split (fun _ => ?_) (fun _ => ?_)) | (with_reducible refine aDraw_quiet (by kernel_rfl) ?_) | (with_reducible apply And.intro)))
      all_goals first
        | rfl
        | omega
        | exact roundI (weak_ren1 [0, 1, 2, 7, 4] ⟨(by decide), (by (first | ((simp only [envInR, tabInR, envLt, tabLt, AObj.lt, AV.lt, AV.ltL, AV.ren, AV.renL, AObj.ren, List.getD_cons_zero, List.getD_cons_succ, List.length_cons, List.length_nil, ruW, ASt.get, aget, ↓reduceIte, reduceCtorEq, Nat.reduceLT, Nat.reduceEqDiff, Nat.reduceAdd, eq_self, hsn]) <;> (repeat' apply And.intro) <;> first | (rw [wrapK (by omega)]; done) | (simp; done) | omega) | fail))⟩) ⟨0 + 1, by omega, rfl⟩ (by simp only [slotN, ruW, ASt.get, aget, ↓reduceIte, Nat.reduceLT, Nat.reduceEqDiff, Nat.reduceAdd, eq_self]; omega)
        | trace_state
    | succ k =>
      have d1 : decide (0 < ((k + 1 : Nat) : Int)) = true := by simp only [decide_eq_true_eq]; omega
      have d2 : decide (0 < k + 1) = true := by simp
      have hrn : (List.replicate (k + 1 + 1 - 1) (0 : Int)).map (fun n => [eI n]) = (List.replicate (k + 1 - 1) (0 : Int)).map (fun n => [eI n]) ++ [[eI 0]] := by
        rw [show k + 1 + 1 - 1 = (k + 1 - 1) + 1 by omega, List.replicate_succ', List.map_append]
        rfl

      (repeat' (first | simp (maxSteps := 5000000) (implicitDefEqProofs := false) only [ruA, ruB, aEv, aTake, aLoad, aField, aIndex, aBin, bin2, ASt.get, aget, ASt.put, aStore, aBox, aAppend, aBuildSlice, aCells, oneC, oneCL, treeC, treeL, aLit, aDst, aSrc, appTab, Value.cells, Value.oneCell', ↓reduceIte, reduceCtorEq, Nat.reduceLT, Nat.reduceEqDiff, Nat.reduceAdd, Nat.reduceMul, Nat.reduceLeDiff, eq_self, aBuildSlice1, frzs, ownIds, tyE_92, tyA_95, tyS_95, tyZ_95, tyF_25_1, tyA_23, tyS_23, tyR_23, tyF_25_0, tyA_22, tyS_22, tyF_95_1, tyA_46, tyS_46, tyR_22, row_at, hlt, hn, hpn, d1, List.length_replicate] | (with_reducible refine aIf_split (fun _ => ?_) (fun _ => ?_)) | (with_reducible refine aSel_split (fun _ => ?_) (fun _ => ?_)) | (with_reducible refine aGd_split (fun _ => ?_) (fun _ => ?_)) | (with_reducible refine aDraw_quiet (by kernel_rfl) ?_) | (with_reducible apply And.intro)))
      all_goals first
        | rfl
        | omega
        | exact roundI (weak_ren1 [0, 1, 2, 9, 7] ⟨(by decide), (by (first | ((simp only [envInR, tabInR, envLt, tabLt, AObj.lt, AV.lt, AV.ltL, AV.ren, AV.renL, AObj.ren, List.getD_cons_zero, List.getD_cons_succ, List.length_cons, List.length_nil, ruW, ASt.get, aget, ↓reduceIte, reduceCtorEq, Nat.reduceLT, Nat.reduceEqDiff, Nat.reduceAdd, eq_self, hsn, hrn]) <;> (repeat' apply And.intro) <;> first | (rw [wrapK (by omega)]; done) | (simp; done) | omega) | fail))⟩) ⟨k + 1 + 1, by omega, rfl⟩ (by simp only [slotN, ruW, ASt.get, aget, ↓reduceIte, Nat.reduceLT, Nat.reduceEqDiff, eq_self]; omega)
        | trace_state
  · obtain rfl : k = L.length := by omega
    rw [List.take_length]
    have hg0 : (List.replicate (L.length - 1) (0 : Int)) = gapsK L r 0 := (gapsK_0 L r).symm
    rw [hg0]
    (repeat' (first | simp (maxSteps := 5000000) (implicitDefEqProofs := false) only [ruA, ruB, aEv, aBin, bin2, ASt.get, aget, ASt.put, ↓reduceIte, reduceCtorEq, Nat.reduceLT, Nat.reduceEqDiff, eq_self, hlt] | (with_reducible refine aIf_split (fun _ => ?_) (fun _ => ?_)) | (with_reducible refine aSel_split (fun _ => ?_) (fun _ => ?_)) | (with_reducible refine aGd_split (fun _ => ?_) (fun _ => ?_))))
    refine callO hP (.inr hpp) ?_
    (repeat' (first | simp (maxSteps := 5000000) (implicitDefEqProofs := false) only [ruA, ruB, aEv, aTake, aLoad, aField, aLen, ASt.get, aget, ASt.put, ↓reduceIte, reduceCtorEq, Nat.reduceLT, Nat.reduceEqDiff, Nat.reduceAdd, eq_self, ne_eq, tyF_25_1, tyA_23, tyS_23, tyE_23, gapsK_len] | (with_reducible refine aIf_split (fun _ => ?_) (fun _ => ?_)) | (with_reducible refine aSel_split (fun _ => ?_) (fun _ => ?_)) | (with_reducible refine aGd_split (fun _ => ?_) (fun _ => ?_))))
    refine aLoop_of (fun st => ∃ k : Nat, k ≤ L.length - 1 ∧ st = ⟨65, [(2, eI r), (6, .op 0 0 0), (7, .op 1 0 0), (10, .osl 5), (41, eI ((L.length - 1 : Nat) : Int)), (42, eI (k : Int))], [(0, some (.box 25 [.c (.slice none 0 0), .c (.slice none 0 0)])), (1, some (.box 25 [.osl 3, .osl 4])), (5, some (.row 95 3 (L.map pf))), (3, some (.row 46 2 (L.map fun n => eCls (cf n)))), (4, some (.row 3 1 ((gapsK L r k).map fun n => [eI n])))], 6⟩) (fun st => L.length - 1 - slotN st 42) ⟨_, (weak_cut1 (by (first | ((simp only [envIn, tabIn, envLt, tabLt, AObj.lt, AV.lt, AV.ltL, ruW, ASt.get, aget, ↓reduceIte, reduceCtorEq, Nat.reduceLT, Nat.reduceEqDiff, eq_self]) <;> (repeat' apply And.intro) <;> first | (rw [wrapK (by omega)]; done) | (simp; done) | omega) | fail))), 0, Nat.zero_le _, rfl⟩ ?_
    rintro _ ⟨k, hk, rfl⟩
    by_cases hlt2 : k < L.length - 1
    · have hk1 : k < L.length := by omega
      have hk2 : k + 1 < L.length := by omega
      have hC := halveCap_A r
      have hCr := capV_le r
      have hC0 := capV_0 r
      have hG := numGap_A L[k] L[k + 1] (capV r) (hLok _ (List.getElem_mem hk1)) (hLok _ (List.getElem_mem hk2)) ⟨by omega, by omega⟩
      have hset := gapsK_set L r hlt2
      have e1 : IntKind.i64.wrap ((k : Int) + 1) = ((k + 1 : Nat) : Int) := wrapK (by omega)
      rw [show L.getD k 0 = L[k] by rw [List.getD_eq_getElem?_getD, List.getElem?_eq_getElem hk1]; rfl, show L.getD (k + 1) 0 = L[k + 1] by rw [List.getD_eq_getElem?_getD, List.getElem?_eq_getElem hk2]; rfl] at hset
      have hst : ((gapsK L r k).map fun n => [eI n]).set k [eI (gapV L[k] L[k + 1] (capV r))] = (gapsK L r (k + 1)).map fun n => [eI n] := by rw [← hset, List.map_set]
      have hpk := hpe L[k]
      have hpk2 := hpe L[k + 1]
      have hkg : k < (gapsK L r k).length := by rw [gapsK_len]; exact hlt2
      (repeat' (first | simp (maxSteps := 5000000) (implicitDefEqProofs := false) only [ruA, ruB, aEv, aBin, bin2, ASt.get, aget, ASt.put, ↓reduceIte, Nat.reduceLT, Nat.reduceEqDiff, eq_self, hlt2] | (with_reducible refine aIf_split (fun _ => ?_) (fun _ => ?_)) | (with_reducible refine aSel_split (fun _ => ?_) (fun _ => ?_)) | (with_reducible refine aGd_split (fun _ => ?_) (fun _ => ?_))))
      refine aDraw_held [4] [0, 1, 2, 3, 4, 5, 6, 7, 8, 9, 10, 11, 12, 13, 14] (.exec 15 (.exec 16 (.take 17 (.exec 18 .done)))) (by kernel_rfl) (by simp [ATab.get_cons]) ?_
      (repeat' (first | simp (maxSteps := 5000000) (implicitDefEqProofs := false) only [ruA, ruB, aEv, aTake, aLoad, aField, aIndex, aBin, bin2, ASt.get, aget, ASt.put, aCells, oneC, oneCL, treeC, treeL, Value.cells, Value.oneCell', ↓reduceIte, reduceCtorEq, Nat.reduceLT, Nat.reduceEqDiff, Nat.reduceAdd, Nat.reduceLeDiff, eq_self, aExecS, aStoreB, aTakes, aTakeE, aFrom, aMay, tyE_92, tyF_25_1, tyA_23, tyS_23, tyE_23, tyF_95_0, tyA_2, tyS_2, tyS_3, row_at, hk1, hk2, hlt2, e1, hpk, hpk2, gapsK_len] | (with_reducible refine aIf_split (fun _ => ?_) (fun _ => ?_)) | (with_reducible refine aSel_split (fun _ => ?_) (fun _ => ?_)) | (with_reducible refine aGd_split (fun _ => ?_) (fun _ => ?_)) | (with_reducible refine aDraw_quiet (by kernel_rfl) ?_) | ((with_reducible apply callV); exact (hC)) | ((with_reducible apply callD); exact (hC)) | ((with_reducible apply callV); exact (hG)) | ((with_reducible apply callD); exact (hG)) | (with_reducible apply And.intro)))
      all_goals first
        | rfl
        | omega
        | exact roundI (weak_cut1 (by (first | ((simp only [envIn, tabIn, envLt, tabLt, AObj.lt, AV.lt, AV.ltL, ruW, ASt.get, aget, ↓reduceIte, reduceCtorEq, Nat.reduceLT, Nat.reduceEqDiff, eq_self, hst]) <;> (repeat' apply And.intro) <;> first | (rw [wrapK (by omega)]; done) | (simp; done) | omega) | fail))) ⟨k + 1, by omega, rfl⟩ (by simp only [slotN, ruW, ASt.get, aget, ↓reduceIte, Nat.reduceLT, Nat.reduceEqDiff, eq_self]; omega)
        | trace_state
    · obtain rfl : k = L.length - 1 := by omega
      rw [gapsK_all]
      (repeat' (first | simp (maxSteps := 5000000) (implicitDefEqProofs := false) only [ruA, ruB, aEv, aTake, aLoad, aBin, bin2, ASt.get, aget, ASt.put, aStore, aCells, oneC, oneCL, aResL, aOne, ↓reduceIte, Nat.reduceLT, Nat.reduceEqDiff, Nat.reduceAdd, eq_self, tyA_25, tyS_25, hlt2] | (with_reducible refine aIf_split (fun _ => ?_) (fun _ => ?_)) | (with_reducible refine aSel_split (fun _ => ?_) (fun _ => ?_)) | (with_reducible refine aGd_split (fun _ => ?_) (fun _ => ?_)) | (with_reducible refine aDraw_quiet (by kernel_rfl) ?_)))
      all_goals exact ⟨[3, 4], by decide, rfl, by simp [aTabs, ATab.get_cons]⟩
end
end Go.Proofs.YtodbhccfajgekaaGreatDoor
