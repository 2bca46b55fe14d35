/-
  Parts of the proof: ZQ, ZY.
-/
import Derived.Test.YtbahakgmbceflaaGreatNsm11
set_option linter.unusedVariables false
set_option linter.unusedSimpArgs false
namespace Go.Proofs.YtbahakgmbceflaaGreat
section
open Go.RowKit
set_option maxRecDepth 100000 in
set_option maxHeartbeats 8000000 in
theorem fits_A (z : Zn) (p q : Nat) (cap a b : Int) (hpq : p < q) (hq : q ≤ z.gaps.length) (h2 : z.gaps.length ≤ 40) (hg : ∀ i (h : i < z.gaps.length), 0 ≤ z.gaps[i] ∧ z.gaps[i] ≤ cap) (hcap : 0 ≤ cap ∧ cap ≤ 1048576) (ha : ok64 a) (hb : ok64 b) :
    ARel Tryz.prog 59 [.agg (eZn z), eI (p : Int), eI (q : Int), eI cap, eI a, eI b] fun R => ∃ t, R = val (.bool t) ∧ (t = true ↔ RoomP z p q cap a b) := by
  refine arel_of_code mixedT Tryz.func59 rfl (by decide) Tryz.ntmps59 Tryz.results59 rfl ?_
  unfold RoomP
  have hsb : ∀ k, p ≤ k → k ≤ q → 0 ≤ (gapsPQ z p k).sum ∧ (gapsPQ z p k).sum ≤ 42000000 := fun k h1 h2k => by
    have h := sum_bd cap hcap.1 (gapsPQ z p k) fun g hgm => by
      obtain ⟨i, hi, rfl⟩ := List.getElem_of_mem (List.mem_of_mem_take (List.mem_of_mem_drop hgm))
      exact hg i hi
    have h5 : ((gapsPQ z p k).length : Int) ≤ 40 := by unfold gapsPQ; rw [List.length_drop, List.length_take]; omega
    have h6 : cap * ((gapsPQ z p k).length : Int) ≤ 1048576 * 40 := Int.mul_le_mul hcap.2 h5 (by omega) (by omega)
    omega
  have e1 : IntKind.i64.wrap ((q : Int) - (p : Int)) = (q : Int) - p := wrap_in (by omega) (by omega)
  obtain ⟨B, hB⟩ : ∃ B, (q : Int) - p - 1 = B := ⟨_, rfl⟩
  have e2 : IntKind.i64.wrap ((q : Int) - (p : Int) - 1) = B := by rw [hB]; exact wrap_in (by omega) (by omega)
  rw [hB]
  have hB1 : 0 ≤ B ∧ B ≤ 40 := by omega
  (repeat' (first | simp (maxSteps := 5000000) (implicitDefEqProofs := false) only [ruA, ruB, aEv, aBin, bin2, ASt.get, aget, ASt.put, aBox, aCells, oneC, oneCL, envOf, ↓reduceIte, Nat.reduceLT, Nat.reduceEqDiff, Nat.reduceAdd, eq_self, e1, e2] | (with_reducible refine aIf_split (fun _ => ?_) (fun _ => ?_)) | (with_reducible refine aSel_split (fun _ => ?_) (fun _ => ?_)) | (with_reducible refine aGd_split (fun _ => ?_) (fun _ => ?_))))
  refine aLoop_of (fun st => ∃ (k : Nat) (s : Int) (w : Bool), p ≤ k ∧ k ≤ q ∧ s = B + (gapsPQ z p k).sum ∧ (w = true ↔ ∃ g ∈ gapsPQ z p k, g = cap) ∧ st = ⟨60, [(2, eI (q : Int)), (3, eI cap), (4, eI a), (5, eI b), (6, .op 0 0 0), (13, eI s), (14, .c (.bool w)), (15, eI (k : Int))], [(0, some (.box 36 (eZn z)))], 1⟩) (fun st => q - slotN st 15) ⟨_, (weak_cut1 (by (first | ((simp only [envIn, tabIn, envLt, tabLt, AObj.lt, AV.lt, AV.ltL, ruW, ASt.get, aget, ↓reduceIte, Nat.reduceLT, Nat.reduceEqDiff, eq_self]) <;> (repeat' apply And.intro) <;> first | (rw [wrapK (by omega)]; done) | (simp; done) | omega) | fail))), p, B, false, Nat.le_refl _, by omega, by rw [gapsPQ_same]; simp, by rw [gapsPQ_same]; simp, rfl⟩ ?_
  rintro _ ⟨k, s, w, hpk, hk, hs, hw, rfl⟩
  by_cases hlt : k < q
  · have hkg : k < z.gaps.length := by omega
    have htk : gapsPQ z p (k + 1) = gapsPQ z p k ++ [z.gaps[k]] := gapsPQ_snoc z (List.getElem?_eq_getElem hkg) hpk
    have h5 := hsb k hpk (by omega)
    have h6 := hsb (k + 1) (by omega) (by omega)
    rw [htk, List.sum_append, List.sum_singleton] at h6
    have d0 : decide ((k : Int) < (q : Int)) = true := decide_eq_true (by omega)
    have es : IntKind.i64.wrap (s + z.gaps[k]) = s + z.gaps[k] := wrap_in (by omega) (by omega)
    have hs2 : s + z.gaps[k] = B + (gapsPQ z p (k + 1)).sum := by rw [htk, List.sum_append, List.sum_singleton]; omega
    have hw2 : (w || z.gaps[k] == cap) = true ↔ ∃ g ∈ gapsPQ z p (k + 1), g = cap := by
      rw [htk, Bool.or_eq_true, hw]
      simp only [List.mem_append, List.mem_singleton, beq_iff_eq]
      constructor
      · rintro (⟨g, h1, h2⟩ | h)
        · exact ⟨g, .inl h1, h2⟩
        · exact ⟨_, .inr rfl, h⟩
      · rintro ⟨g, h1 | rfl, h2⟩
        · exact .inl ⟨g, h1, h2⟩
        · exact .inr h2
    clear hw hs hsb htk hg
    generalize hgk : z.gaps[k] = g at *
    cases w with
    | true =>
      (repeat' (first | simp (maxSteps := 5000000) (implicitDefEqProofs := false) only [ruA, ruB, aEv, aTake, aLoad, aField, aIndex, aBin, bin2, ASt.get, aget, ASt.put, ↓reduceIte, reduceCtorEq, Nat.reduceLT, Nat.reduceEqDiff, eq_self, tyF_36_1, tyA_34, tyS_34, tyE_34, tyA_3, tyS_3, row_at, hkg, hgk, hlt, es] | (with_reducible refine aIf_split (fun _ => ?_) (fun _ => ?_)) | (with_reducible refine aSel_split (fun _ => ?_) (fun _ => ?_)) | (with_reducible refine aGd_split (fun _ => ?_) (fun _ => ?_)) | (with_reducible refine aDraw_quiet (by kernel_rfl) ?_)))
      all_goals exact roundI (weak_cut1 (by (first | ((simp only [envIn, tabIn, envLt, tabLt, AObj.lt, AV.lt, AV.ltL, ruW, ASt.get, aget, ↓reduceIte, Nat.reduceLT, Nat.reduceEqDiff, eq_self]) <;> (repeat' apply And.intro) <;> first | (rw [wrapK (by omega)]; done) | (simp; done) | omega) | fail))) ⟨k + 1, s + g, true, by omega, by omega, hs2, by simpa using hw2, rfl⟩ (by simp only [slotN, ruW, ASt.get, aget, ↓reduceIte, Nat.reduceLT, Nat.reduceEqDiff, eq_self]; omega)
    | false =>
      by_cases hgc : g = cap
      · have d1 : (g == cap) = true := by simpa using hgc
        (repeat' (first | simp (maxSteps := 5000000) (implicitDefEqProofs := false) only [ruA, ruB, aEv, aTake, aLoad, aField, aIndex, aBin, bin2, ASt.get, aget, ASt.put, ↓reduceIte, reduceCtorEq, Nat.reduceLT, Nat.reduceEqDiff, eq_self, tyF_36_1, tyA_34, tyS_34, tyE_34, tyA_3, tyS_3, row_at, hkg, hgk, hlt, es, d1] | (with_reducible refine aIf_split (fun _ => ?_) (fun _ => ?_)) | (with_reducible refine aSel_split (fun _ => ?_) (fun _ => ?_)) | (with_reducible refine aGd_split (fun _ => ?_) (fun _ => ?_)) | (with_reducible refine aDraw_quiet (by kernel_rfl) ?_)))
        all_goals exact roundI (weak_cut1 (by (first | ((simp only [envIn, tabIn, envLt, tabLt, AObj.lt, AV.lt, AV.ltL, ruW, ASt.get, aget, ↓reduceIte, Nat.reduceLT, Nat.reduceEqDiff, eq_self]) <;> (repeat' apply And.intro) <;> first | (rw [wrapK (by omega)]; done) | (simp; done) | omega) | fail))) ⟨k + 1, s + g, true, by omega, by omega, hs2, by rw [← hw2, d1]; rfl, rfl⟩ (by simp only [slotN, ruW, ASt.get, aget, ↓reduceIte, Nat.reduceLT, Nat.reduceEqDiff, eq_self]; omega)
      · have d1 : (g == cap) = false := by simpa using hgc
        (repeat' (first | simp (maxSteps := 5000000) (implicitDefEqProofs := false) only [ruA, ruB, aEv, aTake, aLoad, aField, aIndex, aBin, bin2, ASt.get, aget, ASt.put, ↓reduceIte, reduceCtorEq, Nat.reduceLT, Nat.reduceEqDiff, eq_self, tyF_36_1, tyA_34, tyS_34, tyE_34, tyA_3, tyS_3, row_at, hkg, hgk, hlt, es, d1] | (with_reducible refine aIf_split (fun _ => ?_) (fun _ => ?_)) | (with_reducible refine aSel_split (fun _ => ?_) (fun _ => ?_)) | (with_reducible refine aGd_split (fun _ => ?_) (fun _ => ?_)) | (with_reducible refine aDraw_quiet (by kernel_rfl) ?_)))
        all_goals exact roundI (weak_cut1 (by (first | ((simp only [envIn, tabIn, envLt, tabLt, AObj.lt, AV.lt, AV.ltL, ruW, ASt.get, aget, ↓reduceIte, Nat.reduceLT, Nat.reduceEqDiff, eq_self]) <;> (repeat' apply And.intro) <;> first | (rw [wrapK (by omega)]; done) | (simp; done) | omega) | fail))) ⟨k + 1, s + g, false, by omega, by omega, hs2, by rw [← hw2, d1]; rfl, rfl⟩ (by simp only [slotN, ruW, ASt.get, aget, ↓reduceIte, Nat.reduceLT, Nat.reduceEqDiff, eq_self]; omega)
  · obtain rfl : k = q := by omega
    have d0 : decide ((k : Int) < (k : Int)) = false := by simp
    have h5 := hsb k hpk (Nat.le_refl _)
    have es : IntKind.i64.wrap (s + 1) = s + 1 := wrap_in (by omega) (by omega)
    have hG := gap_A a b (s + 1) ha hb (by omega)
    rw [← hs]
    by_cases g1 : gapV a b (s + 1) = s
    · have d1 : (gapV a b (s + 1) == s) = true := by simpa using g1
      (repeat' (first | simp (maxSteps := 5000000) (implicitDefEqProofs := false) only [ruA, ruB, aEv, aBin, bin2, ASt.get, aget, ASt.put, aResL, aOne, ↓reduceIte, Nat.reduceLT, Nat.reduceEqDiff, eq_self, hlt, es, d1] | (with_reducible refine aIf_split (fun _ => ?_) (fun _ => ?_)) | (with_reducible refine aSel_split (fun _ => ?_) (fun _ => ?_)) | (with_reducible refine aGd_split (fun _ => ?_) (fun _ => ?_)) | (with_reducible refine aDraw_quiet (by kernel_rfl) ?_) | ((with_reducible apply callV); exact (hG)) | ((with_reducible apply callD); exact (hG))))
      all_goals exact retV ⟨true, rfl, by simp [g1]⟩
    · have d1 : (gapV a b (s + 1) == s) = false := by simpa using g1
      cases w with
      | true =>
        (repeat' (first | simp (maxSteps := 5000000) (implicitDefEqProofs := false) only [ruA, ruB, aEv, aBin, bin2, ASt.get, aget, ASt.put, aResL, aOne, ↓reduceIte, Nat.reduceLT, Nat.reduceEqDiff, eq_self, hlt, es, d1] | (with_reducible refine aIf_split (fun _ => ?_) (fun _ => ?_)) | (with_reducible refine aSel_split (fun _ => ?_) (fun _ => ?_)) | (with_reducible refine aGd_split (fun _ => ?_) (fun _ => ?_)) | (with_reducible refine aDraw_quiet (by kernel_rfl) ?_) | ((with_reducible apply callV); exact (hG)) | ((with_reducible apply callD); exact (hG))))
        all_goals exact retV ⟨_, rfl, by simp at hw; simp [g1, hw]⟩
      | false =>
        (repeat' (first | simp (maxSteps := 5000000) (implicitDefEqProofs := false) only [ruA, ruB, aEv, aBin, bin2, ASt.get, aget, ASt.put, aResL, aOne, ↓reduceIte, Nat.reduceLT, Nat.reduceEqDiff, eq_self, hlt, es, d1] | (with_reducible refine aIf_split (fun _ => ?_) (fun _ => ?_)) | (with_reducible refine aSel_split (fun _ => ?_) (fun _ => ?_)) | (with_reducible refine aGd_split (fun _ => ?_) (fun _ => ?_)) | (with_reducible refine aDraw_quiet (by kernel_rfl) ?_) | ((with_reducible apply callV); exact (hG)) | ((with_reducible apply callD); exact (hG))))
        all_goals exact retV ⟨_, rfl, by simp at hw; simp [g1, hw]⟩
set_option maxRecDepth 100000 in
set_option maxHeartbeats 16000000 in
theorem check22_A (z : Zn) (n : Int) (c : List Int) (r : Int) (h1 : z.cls.length ≤ 40) (h2 : z.gaps.length ≤ 40) (h3 : c.length ≤ 100000) (hc : ∀ x ∈ c, ok64 x) (hr : capV r ≤ 1048576) (hat : ∀ x ∈ z.cls, ok64 x.attrs) : ARel Tryz.prog 28 [.agg (eZn z), eI n, sI c, eI r] fun R => ∃ b, R = val (.bool b) ∧ (b = true ↔ CheckP z n c r) := by
  refine arel_of_code mixedT Tryz.func28 rfl (by decide) Tryz.ntmps28 Tryz.results28 rfl ?_
  have hS := refSorted_A c h3
  have hCap := cap_A r
  have hcap0 := capV_0 r
  have hsl := sortR_len c
  have hso : ∀ x ∈ sortR c, ok64 x := fun x hx => hc x (((sortR_up c).2 x).1 hx)
  unfold CheckP
  generalize sortR c = sc at *
  generalize capV r = cap at *
  by_cases g1 : 0 ≤ n
  · have d1 : decide (n < 0) = false := by simpa using g1
    by_cases g2 : n ≤ 31
    · have d2 : decide (31 < n) = false := by simpa using g2
      obtain ⟨m, rfl⟩ : ∃ m : Nat, n = (m : Int) := ⟨n.toNat, by omega⟩
      have hC := classes_A z (m : Int) (sc.length : Int) (by omega) hat
      have hfd := formed_doc z.cls m (sc.length : Int) (by omega) fun x hx => by have := hat x hx; unfold ok64 at this; omega
      generalize (okB z.cls (m : Int) z.cls.length && decide ((nextN z.cls : Int) = (sc.length : Int))) = t1 at *
      rw [← hfd]
      cases t1 with
      | false =>
        (repeat' (first | simp (maxSteps := 5000000) (implicitDefEqProofs := false) only [ruA, ruB, aEv, aTake, aLoad, aLen, aBin, bin2, aUn, un1, ASt.get, aget, ASt.put, aBox, aCells, oneC, oneCL, envOf, aResL, aOne, ↓reduceIte, reduceCtorEq, Nat.reduceLT, Nat.reduceEqDiff, Nat.reduceAdd, eq_self, ne_eq, AV.shift, tyA_36, tyS_36, tyE_23, d1, d2] | (with_reducible refine aIf_split (fun _ => ?_) (fun _ => ?_)) | (with_reducible refine aSel_split (fun _ => ?_) (fun _ => ?_)) | (with_reducible refine aGd_split (fun _ => ?_) (fun _ => ?_)) | (with_reducible refine aDraw_quiet (by kernel_rfl) ?_) | ((with_reducible apply callT); exact (hS); exact (.inl (by simp [roL, roA]))) | ((with_reducible apply callV); exact (hC)) | ((with_reducible apply callD); exact (hC))))
        all_goals exact retV ⟨false, rfl, by simp⟩
      | true =>
        have hF := hfd.1 rfl
        have e1 : IntKind.i64.wrap ((z.cls.length : Int) - 1) = (z.cls.length : Int) - 1 := wrap_in (by omega) (by omega)
        by_cases g3 : (z.gaps.length : Int) = max ((z.cls.length : Int) - 1) 0
        · have d3 : ((z.gaps.length : Int) != max ((z.cls.length : Int) - 1) 0) = false := by simp [g3]
          (repeat' (first | simp (maxSteps := 5000000) (implicitDefEqProofs := false) only [ruA, ruB, aEv, aTake, aLoad, aField, aLen, aBin, bin2, aUn, un1, ASt.get, aget, ASt.put, aBox, aCells, oneC, oneCL, envOf, ↓reduceIte, reduceCtorEq, Nat.reduceLT, Nat.reduceEqDiff, Nat.reduceAdd, Nat.reduceLeDiff, eq_self, ne_eq, AV.shift, aMM, tyA_36, tyS_36, tyE_23, tyF_36_1, tyA_34, tyS_34, tyE_34, tyF_36_0, tyA_33, tyS_33, tyE_33, d1, d2, d3, e1] | (with_reducible refine aIf_split (fun _ => ?_) (fun _ => ?_)) | (with_reducible refine aSel_split (fun _ => ?_) (fun _ => ?_)) | (with_reducible refine aGd_split (fun _ => ?_) (fun _ => ?_)) | (with_reducible refine aDraw_quiet (by kernel_rfl) ?_) | ((with_reducible apply callT); exact (hS); exact (.inl (by simp [roL, roA]))) | ((with_reducible apply callV); exact (hC)) | ((with_reducible apply callD); exact (hC))))
          refine aLoop_of (fun st => ∃ i : Nat, i ≤ z.gaps.length ∧ (∀ j (h : j < z.gaps.length), j < i → 0 ≤ z.gaps[j] ∧ z.gaps[j] ≤ cap) ∧ st = ⟨100, [(3, eI r), (4, .op 0 0 0), (9, sI sc), (10, eI (-1)), (11, eI (i : Int))], [(0, some (.box 36 (eZn z)))], 1⟩) (fun st => z.gaps.length - slotN st 11) ⟨_, (weak_cut1 (by (first | ((simp only [envIn, tabIn, envLt, tabLt, AObj.lt, AV.lt, AV.ltL, ruW, ASt.get, aget, ↓reduceIte, Nat.reduceLT, Nat.reduceEqDiff, eq_self]) <;> (repeat' apply And.intro) <;> first | (rw [wrapK (by omega)]; done) | (simp; done) | omega) | fail))), 0, Nat.zero_le _, fun j _ h => by omega, rfl⟩ ?_
          rintro _ ⟨i, hi, hok, rfl⟩
          by_cases hlt : i < z.gaps.length
          · have hno : ¬ (0 ≤ z.gaps[i] ∧ z.gaps[i] ≤ cap) → ¬ GappedP z cap := fun h h2 => h (h2.2 i hlt)
            have hok2 : (0 ≤ z.gaps[i] ∧ z.gaps[i] ≤ cap) → ∀ j (h : j < z.gaps.length), j < i + 1 → 0 ≤ z.gaps[j] ∧ z.gaps[j] ≤ cap := fun h j hj hji => by
              rcases Nat.lt_or_ge j i with h2 | h2
              · exact hok j hj h2
              · obtain rfl : j = i := by omega
                exact h
            generalize hg : z.gaps[i] = g at *
            by_cases g4 : g < 0
            · have d4 : decide (g < 0) = true := by simpa using g4
              (repeat' (first | simp (maxSteps := 5000000) (implicitDefEqProofs := false) only [ruA, ruB, aEv, aTake, aLoad, aField, aIndex, aLen, aBin, bin2, ASt.get, aget, ASt.put, aResL, aOne, ↓reduceIte, reduceCtorEq, Nat.reduceLT, Nat.reduceEqDiff, eq_self, ne_eq, tyF_36_1, tyA_34, tyS_34, tyE_34, tyA_3, tyS_3, row_at, hlt, hg, d4] | (with_reducible refine aIf_split (fun _ => ?_) (fun _ => ?_)) | (with_reducible refine aSel_split (fun _ => ?_) (fun _ => ?_)) | (with_reducible refine aGd_split (fun _ => ?_) (fun _ => ?_)) | (with_reducible refine aDraw_quiet (by kernel_rfl) ?_) | ((with_reducible apply callV); exact (hCap)) | ((with_reducible apply callD); exact (hCap))))
              all_goals exact retV ⟨false, rfl, by simp; exact fun _ h => (hno (by omega) h).elim⟩
            · have d4 : decide (g < 0) = false := by simpa using g4
              by_cases g5 : cap < g
              · have d5 : decide (cap < g) = true := by simpa using g5
                (repeat' (first | simp (maxSteps := 5000000) (implicitDefEqProofs := false) only [ruA, ruB, aEv, aTake, aLoad, aField, aIndex, aLen, aBin, bin2, ASt.get, aget, ASt.put, aResL, aOne, ↓reduceIte, reduceCtorEq, Nat.reduceLT, Nat.reduceEqDiff, eq_self, ne_eq, dref, tyK_3, tyF_36_1, tyA_34, tyS_34, tyE_34, tyA_3, tyS_3, row_at, hlt, hg, d4, d5] | (with_reducible refine aIf_split (fun _ => ?_) (fun _ => ?_)) | (with_reducible refine aSel_split (fun _ => ?_) (fun _ => ?_)) | (with_reducible refine aGd_split (fun _ => ?_) (fun _ => ?_)) | (with_reducible refine aDraw_quiet (by kernel_rfl) ?_) | ((with_reducible apply callV); exact (hCap)) | ((with_reducible apply callD); exact (hCap))))
                all_goals exact retV ⟨false, rfl, by simp; exact fun _ h => (hno (by omega) h).elim⟩
              · have d5 : decide (cap < g) = false := by simpa using g5
                (repeat' (first | simp (maxSteps := 5000000) (implicitDefEqProofs := false) only [ruA, ruB, aEv, aTake, aLoad, aField, aIndex, aLen, aBin, bin2, ASt.get, aget, ASt.put, ↓reduceIte, reduceCtorEq, Nat.reduceLT, Nat.reduceEqDiff, eq_self, ne_eq, dref, tyK_3, tyF_36_1, tyA_34, tyS_34, tyE_34, tyA_3, tyS_3, row_at, hlt, hg, d4, d5] | (with_reducible refine aIf_split (fun _ => ?_) (fun _ => ?_)) | (with_reducible refine aSel_split (fun _ => ?_) (fun _ => ?_)) | (with_reducible refine aGd_split (fun _ => ?_) (fun _ => ?_)) | (with_reducible refine aDraw_quiet (by kernel_rfl) ?_) | ((with_reducible apply callV); exact (hCap)) | ((with_reducible apply callD); exact (hCap))))
                all_goals exact roundI (weak_cut1 (by (first | ((simp only [envIn, tabIn, envLt, tabLt, AObj.lt, AV.lt, AV.ltL, ruW, ASt.get, aget, ↓reduceIte, Nat.reduceLT, Nat.reduceEqDiff, eq_self]) <;> (repeat' apply And.intro) <;> first | (rw [wrapK (by omega)]; done) | (simp; done) | omega) | fail))) ⟨i + 1, by omega, hok2 ⟨by omega, by omega⟩, rfl⟩ (by simp only [slotN, ruW, ASt.get, aget, ↓reduceIte, Nat.reduceLT, Nat.reduceEqDiff, eq_self]; omega)
          obtain rfl : i = z.gaps.length := by omega
          have hG : GappedP z cap := ⟨g3, fun j hj => hok j hj hj⟩
          (repeat' (first | simp (maxSteps := 5000000) (implicitDefEqProofs := false) only [ruA, ruB, aEv, aTake, aLoad, aField, aLen, aBin, bin2, ASt.get, aget, ASt.put, ↓reduceIte, reduceCtorEq, Nat.reduceLT, Nat.reduceEqDiff, eq_self, ne_eq, tyF_36_1, tyA_34, tyS_34, tyE_34, hlt] | (with_reducible refine aIf_split (fun _ => ?_) (fun _ => ?_)) | (with_reducible refine aSel_split (fun _ => ?_) (fun _ => ?_)) | (with_reducible refine aGd_split (fun _ => ?_) (fun _ => ?_)) | (with_reducible refine aDraw_quiet (by kernel_rfl) ?_)))
          clear hok hi
          have hFl : (fixL z).length = sc.length := by
            have e1 := fix_next hF.1 z.cls.length (Nat.le_refl _)
            rw [List.take_length] at e1
            have e2 := hF.2.2
            unfold fixL
            omega
          have hlt2 : ∀ i ∈ fixL z, i < z.cls.length := fun i hi => fixI_mem _ _ hi
          have hgl := hG.1
          have hRoom : ∀ i, i + 1 < (fixL z).length → ∃ t : Bool, (t = true ↔ RoomP z ((fixL z).getD i 0) ((fixL z).getD (i + 1) 0) cap (sc.getD i 0) (sc.getD (i + 1) 0)) ∧ ADet Tryz.prog 59 [.agg (eZn z), eI (((fixL z).getD i 0 : Nat) : Int), eI (((fixL z).getD (i + 1) 0 : Nat) : Int), eI cap, eI (sc.getD i 0), eI (sc.getD (i + 1) 0)] (val (.bool t)) := fun i hi => by
            have e1 : (fixL z).getD i 0 = (fixL z)[i] := by rw [List.getD_eq_getElem?_getD, List.getElem?_eq_getElem (by omega)]; rfl
            have e2 : (fixL z).getD (i + 1) 0 = (fixL z)[i + 1] := by rw [List.getD_eq_getElem?_getD, List.getElem?_eq_getElem (by omega)]; rfl
            have e3 : sc.getD i 0 = sc[i] := by rw [List.getD_eq_getElem?_getD, List.getElem?_eq_getElem (by omega)]; rfl
            have e4 : sc.getD (i + 1) 0 = sc[i + 1] := by rw [List.getD_eq_getElem?_getD, List.getElem?_eq_getElem (by omega)]; rfl
            have h5 := List.pairwise_iff_getElem.1 (fixI_up z.cls z.cls.length) i (i + 1) (by unfold fixL at hi; omega) (by unfold fixL at hi; omega) (by omega)
            have h6 := hlt2 _ (List.getElem_mem hi)
            exact adet_iff (fits_A z _ _ cap _ _ (by rw [e1, e2]; exact h5) (by rw [e2]; omega) h2 hG.2 ⟨hcap0, hr⟩ (by rw [e3]; exact hso _ (List.getElem_mem _)) (by rw [e4]; exact hso _ (List.getElem_mem _)))
          refine aLoop_of (fun st => ∃ (i m : Nat) (w : Int), i ≤ z.cls.length ∧ m = (fixI z.cls i).length ∧ ((m = 0 ∧ w = -1) ∨ (0 < m ∧ w = (((fixL z).getD (m - 1) 0 : Nat) : Int))) ∧ (∀ j, j + 1 < m → RoomP z ((fixL z).getD j 0) ((fixL z).getD (j + 1) 0) cap (sc.getD j 0) (sc.getD (j + 1) 0)) ∧ st = ⟨100, [(3, eI r), (4, .op 0 0 0), (9, sI sc), (10, eI w), (12, eI (i : Int))], [(0, some (.box 36 (eZn z)))], 1⟩) (fun st => z.cls.length - slotN st 12) ⟨_, (weak_cut1 (by (first | ((simp only [envIn, tabIn, envLt, tabLt, AObj.lt, AV.lt, AV.ltL, ruW, ASt.get, aget, ↓reduceIte, Nat.reduceLT, Nat.reduceEqDiff, eq_self]) <;> (repeat' apply And.intro) <;> first | (rw [wrapK (by omega)]; done) | (simp; done) | omega) | fail))), 0, 0, -1, Nat.zero_le _, rfl, .inl ⟨rfl, rfl⟩, fun j h => by omega, rfl⟩ ?_
          rintro _ ⟨i, m', w, hi, hm, hw, hok, rfl⟩
          by_cases hlt : i < z.cls.length
          · have hsn := fixI_snoc z.cls hlt
            have hn1 := fix_next hF.1 i (by omega)
            have hfa := fix_at hF.1 hlt
            have hco := (hF.1 i hlt).2.2.2
            generalize hcc : z.cls[i] = c at *
            by_cases g4 : c.const = -1
            · have d4 : decide (c.const < 0) = true := by rw [g4]; rfl
              rw [if_neg (by omega)] at hsn
              (repeat' (first | simp (maxSteps := 5000000) (implicitDefEqProofs := false) only [ruA, ruB, aEv, aTake, aLoad, aField, aIndex, aLen, aBin, bin2, ASt.get, aget, ASt.put, ↓reduceIte, reduceCtorEq, Nat.reduceLT, Nat.reduceEqDiff, Nat.reduceAdd, Nat.reduceLeDiff, eq_self, ne_eq, tyF_36_0, tyA_33, tyS_33, tyE_33, tyA_3, tyS_3, tyF_63_1, row_at, hlt, hcc, d4] | (with_reducible refine aIf_split (fun _ => ?_) (fun _ => ?_)) | (with_reducible refine aSel_split (fun _ => ?_) (fun _ => ?_)) | (with_reducible refine aGd_split (fun _ => ?_) (fun _ => ?_)) | (with_reducible refine aDraw_quiet (by kernel_rfl) ?_)))
              all_goals exact roundI (weak_cut1 (by (first | ((simp only [envIn, tabIn, envLt, tabLt, AObj.lt, AV.lt, AV.ltL, ruW, ASt.get, aget, ↓reduceIte, Nat.reduceLT, Nat.reduceEqDiff, eq_self]) <;> (repeat' apply And.intro) <;> first | (rw [wrapK (by omega)]; done) | (simp; done) | omega) | fail))) ⟨i + 1, m', w, by omega, by rw [hsn]; exact hm, hw, hok, rfl⟩ (by simp only [slotN, ASt.get, aget, ↓reduceIte, Nat.reduceLT, Nat.reduceEqDiff, eq_self]; omega)
            · have hco2 := hco.resolve_left g4
              obtain ⟨j, hj1, hj2, hj3⟩ := hfa g4
              obtain rfl : m' = j := by omega
              have d4 : decide (c.const < 0) = false := by rw [hj1]; simp
              rw [if_pos (by omega)] at hsn
              have hm2 : m' + 1 = (fixI z.cls (i + 1)).length := by rw [hsn, List.length_append, ← hm]; rfl
              have hwi : ((0 = m' + 1 ∧ (i : Int) = -1) ∨ (0 < m' + 1 ∧ (i : Int) = (((fixL z).getD (m' + 1 - 1) 0 : Nat) : Int))) := .inr ⟨by omega, by rw [Nat.add_sub_cancel, List.getD_eq_getElem?_getD, List.getElem?_eq_getElem hj2, Option.getD_some, hj3]⟩
              rcases hw with ⟨hm0, hw0⟩ | ⟨hm0, hw0⟩
              · subst hw0
                (repeat' (first | simp (maxSteps := 5000000) (implicitDefEqProofs := false) only [ruA, ruB, aEv, aTake, aLoad, aField, aIndex, aLen, aBin, bin2, ASt.get, aget, ASt.put, ↓reduceIte, reduceCtorEq, Nat.reduceLT, Nat.reduceEqDiff, Nat.reduceAdd, Nat.reduceLeDiff, eq_self, ne_eq, tyF_36_0, tyA_33, tyS_33, tyE_33, tyA_3, tyS_3, tyF_63_1, row_at, hlt, hcc, d4, Int.reduceLE, Int.reduceNeg] | (with_reducible refine aIf_split (fun _ => ?_) (fun _ => ?_)) | (with_reducible refine aSel_split (fun _ => ?_) (fun _ => ?_)) | (with_reducible refine aGd_split (fun _ => ?_) (fun _ => ?_)) | (with_reducible refine aDraw_quiet (by kernel_rfl) ?_) | ((with_reducible apply callV); exact (hCap)) | ((with_reducible apply callD); exact (hCap))))
                all_goals exact roundI (weak_cut1 (by (first | ((simp only [envIn, tabIn, envLt, tabLt, AObj.lt, AV.lt, AV.ltL, ruW, ASt.get, aget, ↓reduceIte, Nat.reduceLT, Nat.reduceEqDiff, eq_self]) <;> (repeat' apply And.intro) <;> first | (rw [wrapK (by omega)]; done) | (simp; done) | omega) | fail))) ⟨i + 1, m' + 1, i, by omega, hm2, by omega, fun j h => by omega, rfl⟩ (by simp only [slotN, ASt.get, aget, ↓reduceIte, Nat.reduceLT, Nat.reduceEqDiff, eq_self]; omega)
              · obtain ⟨k, rfl⟩ : ∃ k, m' = k + 1 := ⟨m' - 1, by omega⟩
                obtain ⟨t, ht, hR⟩ := hRoom k hj2
                have hi2 : (fixL z).getD (k + 1) 0 = i := by rw [List.getD_eq_getElem?_getD, List.getElem?_eq_getElem hj2, Option.getD_some, hj3]
                have hs0 : k < sc.length := by omega
                have hs1 : k + 1 < sc.length := by omega
                have e3 : sc.getD k 0 = sc[k] := by rw [List.getD_eq_getElem?_getD, List.getElem?_eq_getElem hs0]; rfl
                have e4 : sc.getD (k + 1) 0 = sc[k + 1] := by rw [List.getD_eq_getElem?_getD, List.getElem?_eq_getElem hs1]; rfl
                rw [Nat.add_sub_cancel] at hw0
                have hok2 : RoomP z ((fixL z).getD k 0) ((fixL z).getD (k + 1) 0) cap (sc.getD k 0) (sc.getD (k + 1) 0) → ∀ i, i + 1 < k + 1 + 1 → RoomP z ((fixL z).getD i 0) ((fixL z).getD (i + 1) 0) cap (sc.getD i 0) (sc.getD (i + 1) 0) := fun h i h1 => by
                  rcases Nat.lt_or_ge i k with h3 | h3
                  · exact hok i (by omega)
                  · obtain rfl : i = k := by omega
                    exact h
                have hno : ¬ RoomP z ((fixL z).getD k 0) ((fixL z).getD (k + 1) 0) cap (sc.getD k 0) (sc.getD (k + 1) 0) → ¬ ∀ i, i + 1 < (fixL z).length → RoomP z ((fixL z).getD i 0) ((fixL z).getD (i + 1) 0) cap (sc.getD i 0) (sc.getD (i + 1) 0) := fun h h2 => h (h2 k hj2)
                rw [← ht] at hok2 hno
                rw [← hw0, hi2, e3, e4] at hR
                have f1 : sc[k]? = some sc[k] := List.getElem?_eq_getElem hs0
                have f2 : sc[k + 1]? = some sc[k + 1] := List.getElem?_eq_getElem hs1
                have hw1 : 0 ≤ w := by omega
                have d5 : decide (0 ≤ w) = true := decide_eq_true hw1
                have d4b : decide (((k + 1 : Nat) : Int) < 0) = false := by simp only [decide_eq_false_iff_not]; omega
                have e5 : IntKind.i64.wrap (((k + 1 : Nat) : Int) - 1) = (k : Int) := by rw [wrap_in (by omega) (by omega)]; omega
                clear hRoom ht hok hco hfa e3 e4
                obtain ⟨x3, hx3⟩ : ∃ x, sc[k] = x := ⟨_, rfl⟩
                obtain ⟨x4, hx4⟩ : ∃ x, sc[k + 1] = x := ⟨_, rfl⟩
                rw [hx3, hx4] at hR
                cases t with
                | true =>
                  (repeat' (first | simp (maxSteps := 5000000) (implicitDefEqProofs := false) only [ruA, ruB, aEv, aTake, aLoad, aField, aIndex, aLen, aBin, bin2, aUn, un1, ASt.get, aget, ASt.put, ↓reduceIte, reduceCtorEq, Nat.reduceLT, Nat.reduceEqDiff, Nat.reduceAdd, Nat.reduceLeDiff, eq_self, ne_eq, dref, dref1, tyA_36, tyS_36, tyE_23, tyF_36_0, tyA_33, tyS_33, tyE_33, tyA_3, tyS_3, tyF_63_1, tyA_2, tyS_2, row_at, hlt, hcc, d4b, d5, hj1, hs0, hs1, hx3, hx4, e5] | (with_reducible refine aIf_split (fun _ => ?_) (fun _ => ?_)) | (with_reducible refine aSel_split (fun _ => ?_) (fun _ => ?_)) | (with_reducible refine aGd_split (fun _ => ?_) (fun _ => ?_)) | (with_reducible refine aDraw_quiet (by kernel_rfl) ?_) | ((with_reducible apply callV); exact (hCap)) | ((with_reducible apply callD); exact (hCap)) | ((with_reducible apply callV); exact (hR)) | ((with_reducible apply callD); exact (hR))))
                  all_goals exact roundI (weak_cut1 (by (first | ((simp only [envIn, tabIn, envLt, tabLt, AObj.lt, AV.lt, AV.ltL, ruW, ASt.get, aget, ↓reduceIte, Nat.reduceLT, Nat.reduceEqDiff, eq_self]) <;> (repeat' apply And.intro) <;> first | (rw [wrapK (by omega)]; done) | (simp; done) | omega) | fail))) ⟨i + 1, k + 1 + 1, i, by omega, hm2, by omega, hok2 rfl, rfl⟩ (by simp only [slotN, ASt.get, aget, ↓reduceIte, Nat.reduceLT, Nat.reduceEqDiff, eq_self]; omega)
                | false =>
                  (repeat' (first | simp (maxSteps := 5000000) (implicitDefEqProofs := false) only [ruA, ruB, aEv, aTake, aLoad, aField, aIndex, aLen, aBin, bin2, aUn, un1, ASt.get, aget, ASt.put, aResL, aOne, ↓reduceIte, reduceCtorEq, Nat.reduceLT, Nat.reduceEqDiff, Nat.reduceAdd, Nat.reduceLeDiff, eq_self, ne_eq, dref, dref1, tyA_36, tyS_36, tyE_23, tyF_36_0, tyA_33, tyS_33, tyE_33, tyA_3, tyS_3, tyF_63_1, tyA_2, tyS_2, row_at, hlt, hcc, d4b, d5, hj1, hs0, hs1, hx3, hx4, e5] | (with_reducible refine aIf_split (fun _ => ?_) (fun _ => ?_)) | (with_reducible refine aSel_split (fun _ => ?_) (fun _ => ?_)) | (with_reducible refine aGd_split (fun _ => ?_) (fun _ => ?_)) | (with_reducible refine aDraw_quiet (by kernel_rfl) ?_) | ((with_reducible apply callV); exact (hCap)) | ((with_reducible apply callD); exact (hCap)) | ((with_reducible apply callV); exact (hR)) | ((with_reducible apply callD); exact (hR))))
                  all_goals exact retV ⟨false, rfl, ⟨fun h => (by cases h), fun h => absurd h.2 (hno (by simp))⟩⟩
          · obtain rfl : i = z.cls.length := by omega
            (repeat' (first | simp (maxSteps := 5000000) (implicitDefEqProofs := false) only [ruA, ruB, aEv, aTake, aLoad, aField, aLen, aBin, bin2, ASt.get, aget, ASt.put, aResL, aOne, ↓reduceIte, reduceCtorEq, Nat.reduceLT, Nat.reduceEqDiff, Nat.reduceAdd, Nat.reduceLeDiff, eq_self, ne_eq, tyF_36_0, tyA_33, tyS_33, tyE_33, hlt] | (with_reducible refine aIf_split (fun _ => ?_) (fun _ => ?_)) | (with_reducible refine aSel_split (fun _ => ?_) (fun _ => ?_)) | (with_reducible refine aGd_split (fun _ => ?_) (fun _ => ?_)) | (with_reducible refine aDraw_quiet (by kernel_rfl) ?_)))
            all_goals exact retV ⟨true, rfl, by simp; exact ⟨⟨by omega, hG⟩, fun i h => hok i (by rw [hm]; exact h)⟩⟩
        · have d3 : ((z.gaps.length : Int) != max ((z.cls.length : Int) - 1) 0) = true := by simpa using g3
          (repeat' (first | simp (maxSteps := 5000000) (implicitDefEqProofs := false) only [ruA, ruB, aEv, aTake, aLoad, aField, aLen, aBin, bin2, aUn, un1, ASt.get, aget, ASt.put, aBox, aCells, oneC, oneCL, envOf, aResL, aOne, ↓reduceIte, reduceCtorEq, Nat.reduceLT, Nat.reduceEqDiff, Nat.reduceAdd, Nat.reduceLeDiff, eq_self, ne_eq, AV.shift, aMM, tyA_36, tyS_36, tyE_23, tyF_36_1, tyA_34, tyS_34, tyE_34, tyF_36_0, tyA_33, tyS_33, tyE_33, d1, d2, d3, e1] | (with_reducible refine aIf_split (fun _ => ?_) (fun _ => ?_)) | (with_reducible refine aSel_split (fun _ => ?_) (fun _ => ?_)) | (with_reducible refine aGd_split (fun _ => ?_) (fun _ => ?_)) | (with_reducible refine aDraw_quiet (by kernel_rfl) ?_) | ((with_reducible apply callT); exact (hS); exact (.inl (by simp [roL, roA]))) | ((with_reducible apply callV); exact (hC)) | ((with_reducible apply callD); exact (hC))))
          all_goals exact retV ⟨false, rfl, by simp; exact fun _ h => (g3 h.1).elim⟩
    · have d2 : decide (31 < n) = true := by simpa using g2
      (repeat' (first | simp (maxSteps := 5000000) (implicitDefEqProofs := false) only [ruA, ruB, aEv, aBin, bin2, ASt.get, aget, ASt.put, aBox, aCells, oneC, oneCL, envOf, aResL, aOne, ↓reduceIte, Nat.reduceLT, Nat.reduceEqDiff, Nat.reduceAdd, eq_self, AV.shift, d1, d2] | (with_reducible refine aIf_split (fun _ => ?_) (fun _ => ?_)) | (with_reducible refine aSel_split (fun _ => ?_) (fun _ => ?_)) | (with_reducible refine aGd_split (fun _ => ?_) (fun _ => ?_)) | (with_reducible refine aDraw_quiet (by kernel_rfl) ?_) | ((with_reducible apply callT); exact (hS); exact (.inl (by simp [roL, roA])))))
      all_goals exact retV ⟨false, rfl, by simp; omega⟩
  · have d1 : decide (n < 0) = true := by simpa using g1
    (repeat' (first | simp (maxSteps := 5000000) (implicitDefEqProofs := false) only [ruA, ruB, aEv, aBin, bin2, ASt.get, aget, ASt.put, aBox, aCells, oneC, oneCL, envOf, aResL, aOne, ↓reduceIte, Nat.reduceLT, Nat.reduceEqDiff, Nat.reduceAdd, eq_self, AV.shift, d1] | (with_reducible refine aIf_split (fun _ => ?_) (fun _ => ?_)) | (with_reducible refine aSel_split (fun _ => ?_) (fun _ => ?_)) | (with_reducible refine aGd_split (fun _ => ?_) (fun _ => ?_)) | (with_reducible refine aDraw_quiet (by kernel_rfl) ?_) | ((with_reducible apply callT); exact (hS); exact (.inl (by simp [roL, roA])))))
    all_goals exact retV ⟨false, rfl, by simp; omega⟩
end
section
open Go.RowKit
theorem up_gap {z : Zn} {cap : Int} {p q : Nat} {A A' : List Int} (h : UpP z.gaps p q A A') {i : Nat} (h1 : p ≤ i) (h2 : i + 1 < q) : GapP z cap A' i := by
  have := h.2.2 (i + 1) (by omega) h2
  rw [Nat.add_sub_cancel] at this
  left
  omega
theorem dn_gap {z : Zn} {cap : Int} {w q : Nat} {A A' : List Int} (h : DnP z.gaps w q A A') {i : Nat} (h1 : w ≤ i) (h2 : i < q) : GapP z cap A' i := by
  have := h.2.2 i h1 h2
  left
  omega
theorem gap_same {z : Zn} {cap : Int} {A A' : List Int} {i : Nat} (h : GapP z cap A i) (h1 : A'.getD i 0 = A.getD i 0) (h2 : A'.getD (i + 1) 0 = A.getD (i + 1) 0) : GapP z cap A' i := by
  unfold GapP at *
  rw [h1, h2]
  exact h
theorem gD_some {l : List Int} {i : Nat} (h : i < l.length) : l[i]? = some (l.getD i 0) := by rw [gD_at h, List.getElem?_eq_getElem h]
theorem up_sum {z : Zn} {p q : Nat} {A A' : List Int} (h : UpP z.gaps p q A A') (hl : q ≤ z.gaps.length + 1) : ∀ d, p + d < q → A'.getD (p + d) 0 = A'.getD p 0 + d + (gapsPQ z p (p + d)).sum
  | 0, _ => by
    rw [show p + 0 = p from rfl, gapsPQ_same]
    simp
  | d + 1, hd => by
    have ih := up_sum h hl d (by omega)
    have h1 := h.2.2 (p + (d + 1)) (by omega) hd
    rw [show p + (d + 1) - 1 = p + d by omega, ih] at h1
    have h2 := gapsPQ_snoc z (p := p) (q := p + d) (gD_some (l := z.gaps) (by omega)) (by omega)
    rw [h1, show p + (d + 1) = p + d + 1 by omega, h2, List.sum_append, List.sum_singleton]
    omega
theorem dn_sum {z : Zn} {w q : Nat} {A A' : List Int} (h : DnP z.gaps w q A A') (hl : q ≤ z.gaps.length) : ∀ d, w + d ≤ q → A'.getD w 0 = A'.getD (w + d) 0 - d - (gapsPQ z w (w + d)).sum
  | 0, _ => by
    rw [show w + 0 = w from rfl, gapsPQ_same]
    simp
  | d + 1, hd => by
    have ih := dn_sum h hl d (by omega)
    have h1 := h.2.2 (w + d) (by omega) (by omega)
    have h2 := gapsPQ_snoc z (p := w) (q := w + d) (gD_some (l := z.gaps) (by omega)) (by omega)
    rw [ih, h1, show w + (d + 1) = w + d + 1 by omega, h2, List.sum_append, List.sum_singleton]
    omega
theorem sum_split (z : Zn) {p w : Nat} (hpw : p ≤ w) : ∀ d, w + d ≤ z.gaps.length → (gapsPQ z p (w + d)).sum = (gapsPQ z p w).sum + (gapsPQ z w (w + d)).sum
  | 0, _ => by
    rw [show w + 0 = w from rfl, gapsPQ_same]
    simp
  | d + 1, hd => by
    have ih := sum_split z hpw d (by omega)
    have h1 := gapsPQ_snoc z (p := p) (q := w + d) (gD_some (l := z.gaps) (by omega)) (by omega)
    have h2 := gapsPQ_snoc z (p := w) (q := w + d) (gD_some (l := z.gaps) (by omega)) (by omega)
    rw [show w + (d + 1) = w + d + 1 by omega, h1, h2, List.sum_append, List.sum_append, ih]
    omega
theorem gaps_nn {z : Zn} (hg : ∀ i, 0 ≤ z.gaps.getD i 0) (p : Nat) : ∀ d, p + d ≤ z.gaps.length → 0 ≤ (gapsPQ z p (p + d)).sum
  | 0, _ => by
    rw [show p + 0 = p from rfl, gapsPQ_same]
    simp
  | d + 1, hd => by
    have ih := gaps_nn hg p d (by omega)
    have h2 := gapsPQ_snoc z (p := p) (q := p + d) (gD_some (l := z.gaps) (by omega)) (by omega)
    rw [show p + (d + 1) = p + d + 1 by omega, h2, List.sum_append, List.sum_singleton]
    have := hg (p + d)
    omega
theorem bt_gap {z : Zn} {cap : Int} {p q w : Nat} {A A1 A' : List Int} (hpq : p < q) (hl : q ≤ z.gaps.length) (hg : ∀ i, 0 ≤ z.gaps.getD i 0) (hW : WdP z.gaps cap p q q w) (hU : UpP z.gaps p (max w (p + 1)) A A1) (hD : DnP z.gaps w q A1 A')
    (hab : A.getD p 0 < A.getD q 0) (hR : RoomP z p q cap (A.getD p 0) (A.getD q 0)) : ∀ i, p ≤ i → i < q → GapP z cap A' i := by
  have hwq : p < w ∧ w ≤ q := by rcases hW with ⟨h1, _⟩ | ⟨h1, h2, _⟩ <;> omega
  have hmx : max w (p + 1) = w := by omega
  rw [hmx] at hU
  intro i h1 h2
  rcases Nat.lt_trichotomy (i + 1) w with h3 | h3 | h3
  · exact gap_same (up_gap hU h1 h3) (hD.2.1 i (.inl (by omega))) (hD.2.1 (i + 1) (.inl h3))
  · have e1 : A'.getD i 0 = A1.getD i 0 := hD.2.1 i (.inl (by omega))
    have e2 := up_sum hU (by omega) (i - p) (by omega)
    rw [show p + (i - p) = i by omega, hU.2.1 p (.inl (Nat.le_refl _))] at e2
    have e3 := dn_sum hD (by omega) (q - w) (by omega)
    rw [show w + (q - w) = q by omega, hD.2.1 q (.inr (Nat.le_refl _)), hU.2.1 q (.inr (by omega))] at e3
    have e4 := sum_split z (p := p) (w := w) (by omega) (q - w) (by omega)
    rw [show w + (q - w) = q by omega] at e4
    have e5 := gapsPQ_snoc z (p := p) (q := i) (gD_some (l := z.gaps) (by omega)) (by omega)
    rw [h3] at e5
    rw [e5, List.sum_append, List.sum_singleton] at e4
    have n1 := gaps_nn hg p (q - p) (by omega)
    rw [show p + (q - p) = q by omega] at n1
    unfold RoomP gapV at hR
    have hGi : A'.getD (i + 1) 0 = A'.getD w 0 := by rw [h3]
    unfold GapP
    rw [hGi]
    rcases hR with hR | ⟨⟨y, hy, rfl⟩, hR⟩
    · left
      omega
    · right
      have hcap : z.gaps.getD i 0 = y := by
        rcases hW with ⟨h4, h5⟩ | ⟨_, _, h5⟩
        · obtain ⟨j, hj, he⟩ := List.getElem_of_mem hy
          unfold gapsPQ at he hj
          rw [List.length_drop, List.length_take] at hj
          rw [List.getElem_drop, List.getElem_take] at he
          exact (h5 (p + j) (by omega) (by omega) (by rw [gD_at (by omega)]; exact he)).elim
        · rw [← h3, Nat.add_sub_cancel] at h5
          exact h5
      refine ⟨hcap, ?_⟩
      omega
  · exact dn_gap hD (by omega) h2
def BdA (A : List Int) : Prop := ∀ i, -4398046511104 ≤ A.getD i 0 ∧ A.getD i 0 ≤ 4398046511104
def SmpB (z : Zn) (sc : List Int) : Prop := z.cls.length ≤ 40 ∧ (∀ i, 0 ≤ z.gaps.getD i 0 ∧ z.gaps.getD i 0 ≤ 1048576) ∧ ∀ t, -1099511627776 ≤ sc.getD t 0 ∧ sc.getD t 0 ≤ 1099511627776
theorem UpP.bd {g : List Int} {p q : Nat} {A A' : List Int} (h : UpP g p q A A') (hpq : p < q) (hq : q ≤ 42) (hg : ∀ i, 0 ≤ g.getD i 0 ∧ g.getD i 0 ≤ 1048576) (hp : -1099511627776 ≤ A.getD p 0 ∧ A.getD p 0 ≤ 1099511627776) (hb : BdA A) : BdA A' := fun i => by
  by_cases h1 : i ≤ p ∨ q ≤ i
  · rw [h.2.1 i h1]
    exact hb i
  · have h2 := h.bound hpq 1048576 hg (i - p) (by omega)
    rw [show p + (i - p) = i by omega] at h2
    omega
theorem DnP.bd {g : List Int} {w q : Nat} {A A' : List Int} (h : DnP g w q A A') (hq : q ≤ 42) (hg : ∀ i, 0 ≤ g.getD i 0 ∧ g.getD i 0 ≤ 1048576) (hp : -1099511627776 ≤ A.getD q 0 ∧ A.getD q 0 ≤ 1099511627776) (hb : BdA A) : BdA A' := fun i => by
  by_cases h1 : i < w ∨ q ≤ i
  · rw [h.2.1 i h1]
    exact hb i
  · have h2 := h.bound 1048576 hg (q - i) (by omega) (by omega)
    rw [show q - (q - i) = i by omega] at h2
    omega
structure SmpInv (z : Zn) (sc : List Int) (cap : Int) (A : List Int) (upto : Nat) : Prop where
  len : A.length = z.cls.length
  fix : ∀ t, t < (fixL z).length → A.getD ((fixL z).getD t 0) 0 = sc.getD t 0
  gap : ∀ i, i < upto → GapP z cap A i
  bd : BdA A
theorem fix_lt (z : Zn) {s t : Nat} (hst : s < t) (ht : t < (fixL z).length) : (fixL z).getD s 0 < (fixL z).getD t 0 := by
  have := List.pairwise_iff_getElem.1 (fixI_up z.cls z.cls.length) s t (by show s < (fixL z).length; omega) ht hst
  rw [List.getD_eq_getElem?_getD, List.getD_eq_getElem?_getD, List.getElem?_eq_getElem ht, List.getElem?_eq_getElem (by omega)]
  exact this
theorem fix_le (z : Zn) {s t : Nat} (hst : s ≤ t) (ht : t < (fixL z).length) : (fixL z).getD s 0 ≤ (fixL z).getD t 0 := by
  rcases Nat.eq_or_lt_of_le hst with rfl | h
  · exact Nat.le_refl _
  · exact Nat.le_of_lt (fix_lt z h ht)
theorem fix_cls (z : Zn) {t : Nat} (ht : t < (fixL z).length) : (fixL z).getD t 0 < z.cls.length := by
  rw [List.getD_eq_getElem?_getD, List.getElem?_eq_getElem ht]
  exact fixI_mem _ _ (List.getElem_mem ht)
theorem SmpInv.down {z : Zn} {sc : List Int} {cap : Int} {A A' : List Int} (h : SmpInv z sc cap A 0) (h0 : 0 < (fixL z).length) (hD : DnP z.gaps 0 ((fixL z).getD 0 0) A A') (hB : SmpB z sc) : SmpInv z sc cap A' ((fixL z).getD 0 0) :=
  ⟨hD.1.trans h.len, fun t ht => by rw [hD.2.1 _ (.inr (fix_le z (Nat.zero_le _) ht))]; exact h.fix t ht, fun i hi => dn_gap hD (Nat.zero_le _) hi, hD.bd (by have := fix_cls z h0; have := hB.1; omega) hB.2.1 (by rw [h.fix 0 h0]; exact hB.2.2 0) h.bd⟩
theorem SmpInv.between {z : Zn} {sc : List Int} {cap : Int} {A A1 A' : List Int} {k w : Nat} (h : SmpInv z sc cap A ((fixL z).getD k 0)) (hk : k + 1 < (fixL z).length) (hgl : z.cls.length ≤ z.gaps.length + 1) (hg : ∀ i, 0 ≤ z.gaps.getD i 0)
    (hW : WdP z.gaps cap ((fixL z).getD k 0) ((fixL z).getD (k + 1) 0) ((fixL z).getD (k + 1) 0) w) (hU : UpP z.gaps ((fixL z).getD k 0) (max w ((fixL z).getD k 0 + 1)) A A1) (hD : DnP z.gaps w ((fixL z).getD (k + 1) 0) A1 A')
    (hsc : sc.getD k 0 < sc.getD (k + 1) 0) (hR : RoomP z ((fixL z).getD k 0) ((fixL z).getD (k + 1) 0) cap (sc.getD k 0) (sc.getD (k + 1) 0)) (hB : SmpB z sc) : SmpInv z sc cap A' ((fixL z).getD (k + 1) 0) := by
  have hpq := fix_lt z (s := k) (t := k + 1) (by omega) hk
  have hq := fix_cls z hk
  have f1 := h.fix k (by omega)
  have f2 := h.fix (k + 1) hk
  have hwq : (fixL z).getD k 0 < w ∧ w ≤ (fixL z).getD (k + 1) 0 := by rcases hW with ⟨h1, _⟩ | ⟨h1, h2, _⟩ <;> omega
  have hsame : ∀ i, i ≤ (fixL z).getD k 0 ∨ (fixL z).getD (k + 1) 0 ≤ i → A'.getD i 0 = A.getD i 0 := fun i hi => by
    rw [hD.2.1 i (by omega), hU.2.1 i (by omega)]
  have hz := hB.1
  have hb1 : BdA A1 := hU.bd (by omega) (by omega) hB.2.1 (by rw [f1]; exact hB.2.2 k) h.bd
  have hb2 : BdA A' := hD.bd (by omega) hB.2.1 (by rw [hU.2.1 _ (.inr (by omega)), f2]; exact hB.2.2 (k + 1)) hb1
  refine ⟨hD.1.trans (hU.1.trans h.len), fun t ht => ?_, fun i hi => ?_, hb2⟩
  · rw [hsame _ ?_]
    · exact h.fix t ht
    · rcases Nat.lt_or_ge k t with h1 | h1
      · exact .inr (fix_le z (by omega) ht)
      · exact .inl (fix_le z h1 (by omega))
  · rcases Nat.lt_or_ge i ((fixL z).getD k 0) with h1 | h1
    · exact gap_same (h.gap i h1) (hsame i (by omega)) (hsame (i + 1) (by omega))
    · rw [← f1, ← f2] at hsc hR
      exact bt_gap hpq (by omega) hg hW hU hD hsc hR i h1 hi
theorem SmpInv.up {z : Zn} {sc : List Int} {cap : Int} {A A' : List Int} {k : Nat} (h : SmpInv z sc cap A ((fixL z).getD k 0)) (hk : k + 1 = (fixL z).length) (hU : UpP z.gaps ((fixL z).getD k 0) (max z.cls.length ((fixL z).getD k 0 + 1)) A A') (hB : SmpB z sc) : SmpInv z sc cap A' (z.cls.length - 1) := by
  have hz := hB.1
  have hq := fix_cls z (t := k) (by omega)
  have hb2 : BdA A' := hU.bd (by omega) (by omega) hB.2.1 (by rw [h.fix k (by omega)]; exact hB.2.2 k) h.bd
  have hsame : ∀ i, i ≤ (fixL z).getD k 0 → A'.getD i 0 = A.getD i 0 := fun i hi => hU.2.1 i (.inl hi)
  refine ⟨hU.1.trans h.len, fun t ht => ?_, fun i hi => ?_, hb2⟩
  · rw [hsame _ (fix_le z (by omega) (by omega))]
    exact h.fix t ht
  · rcases Nat.lt_or_ge i ((fixL z).getD k 0) with h1 | h1
    · exact gap_same (h.gap i h1) (hsame i (by omega)) (hsame (i + 1) (by omega))
    · exact up_gap hU h1 (by omega)
theorem SmpInv.none {z : Zn} {sc : List Int} {cap : Int} {A A' : List Int} (h : SmpInv z sc cap A 0) (hU : UpP z.gaps 0 (max z.cls.length 1) A A') (h0 : (fixL z).length = 0) (hz : A.getD 0 0 = 0) (hB : SmpB z sc) : SmpInv z sc cap A' (z.cls.length - 1) :=
  ⟨hU.1.trans h.len, fun t ht => by omega, fun i hi => up_gap hU (Nat.zero_le _) (by omega), hU.bd (by omega) (by have := hB.1; omega) hB.2.1 (by rw [hz]; omega) h.bd⟩
end
end Go.Proofs.YtbahakgmbceflaaGreat
