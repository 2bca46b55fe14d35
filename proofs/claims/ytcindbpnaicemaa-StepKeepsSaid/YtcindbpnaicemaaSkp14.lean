/-
  Parts of the proof: E4, T1, D10, AlX, AlY, T2, T3.
-/
import Derived.Test.YtcindbpnaicemaaSkp13
set_option linter.unusedVariables false
set_option linter.unusedSimpArgs false
namespace Go.Proofs.Ytcindbpnaicemaa
section
open Go.RowKit
theorem firstI_nat (n : Nat) : firstI (n : Int) = ((2 ^ (min n 31) - 1 : Nat) : Int) := by
  have h1 : (max 0 (min (n : Int) 31)).toNat = min n 31 := by omega
  have h2 : 0 < 2 ^ (min n 31) := Nat.two_pow_pos _
  unfold firstI
  rw [h1]
  generalize min n 31 = k at *
  have : ((2 ^ k : Nat) : Int) = (2 : Int) ^ k := by simp
  omega
theorem ofB_bits (s : Int) (n : Nat) (hs : 0 ≤ s ∧ s < 2147483648) : ofB s (n : Int) = true ↔ ∀ i : Nat, n ≤ i → i < 31 → hasB s (i : Int) = false := by
  obtain ⟨q, rfl⟩ : ∃ q : Nat, s = (q : Int) := ⟨s.toNat, by omega⟩
  have hq : q < 2 ^ 31 := by omega
  have hl : low (q : Int) = q := by
    simp only [low]
    omega
  unfold ofB
  rw [firstI_nat]
  have h2 : 0 < 2 ^ (min n 31) := Nat.two_pow_pos _
  constructor
  · intro h i h3 h4
    simp at h
    have hlt : q < 2 ^ (min n 31) := by omega
    rw [hasB_low _ _ h4, hl]
    refine Nat.testBit_lt_two_pow (Nat.lt_of_lt_of_le hlt ?_)
    exact Nat.pow_le_pow_right (by omega) (by omega)
  · intro h
    have hlt : q < 2 ^ (min n 31) := by
      refine Nat.lt_pow_two_of_testBit _ fun i hi => ?_
      by_cases h31 : i < 31
      · have := h i (by omega) h31
        rwa [hasB_low _ _ h31, hl] at this
      · refine Nat.testBit_lt_two_pow (Nat.lt_of_lt_of_le hq ?_)
        exact Nat.pow_le_pow_right (by omega) (by omega)
    simp
    omega
theorem firstI_31 (n : Nat) : firstI (n : Int) < 2147483648 := by
  rw [firstI_nat]
  have : 2 ^ (min n 31) ≤ 2 ^ 31 := Nat.pow_le_pow_right (by omega) (by omega)
  have h2 : 0 < 2 ^ (min n 31) := Nat.two_pow_pos _
  omega
theorem ofB_31 {s : Int} {n : Nat} (h : ofB s (n : Int) = true) : in31 s := by
  unfold ofB at h
  simp at h
  have := firstI_31 n
  unfold in31
  omega
set_option maxRecDepth 100000 in
theorem within_A (s : Int) (n : Nat) (hs : ok64 s) : ADet Try.prog 21 [eI s, eI (n : Int)] (val (.bool (ofB s (n : Int)))) := by
  refine adet_of_code mixedT Try.func21 rfl (by decide) Try.ntmps21 Try.results21 rfl (val_ok _) ?_
  (repeat' (first | simp (maxSteps := 5000000) (implicitDefEqProofs := false) only [ruA, ruB, aEv, ASt.put, envOf] | (with_reducible refine aIf_split (fun _ => ?_) (fun _ => ?_)) | (with_reducible refine aSel_split (fun _ => ?_) (fun _ => ?_)) | (with_reducible refine aGd_split (fun _ => ?_) (fun _ => ?_))))
  refine aLoop_of (fun st => ∃ k : Nat, k ≤ 31 ∧ (∀ i : Nat, n ≤ i → i < k → hasB s (i : Int) = false) ∧ st = ⟨24, [(0, eI s), (1, eI (n : Int)), (5, eI (k : Int))], [], 0⟩) (fun st => 31 - slotN st 5) ⟨_, (weak_cut1 (by (first | ((simp only [envIn, tabIn, envLt, tabLt, AV.lt, ruW, ASt.get, aget, ↓reduceIte, reduceCtorEq, Nat.reduceLT, Nat.reduceEqDiff, eq_self]) <;> (repeat' apply And.intro) <;> first | (rw [wrapK (by omega)]; done) | (simp; done) | omega) | fail))), 0, Nat.zero_le _, by simp, rfl⟩ ?_
  rintro _ ⟨k, hk, hI, rfl⟩
  by_cases hlt : k < 31
  · have h31 : (k : Int) < 31 := by omega
    (repeat' (first | simp (maxSteps := 5000000) (implicitDefEqProofs := false) only [ruA, ruB, aEv, aBin, bin2, ASt.get, aget, ASt.put, aResL, aOne, ↓reduceIte, reduceCtorEq, Nat.reduceLT, Nat.reduceEqDiff, eq_self, h31] | (with_reducible refine aIf_split (fun _ => ?_) (fun _ => ?_)) | (with_reducible refine aSel_split (fun _ => ?_) (fun _ => ?_)) | (with_reducible refine aGd_split (fun _ => ?_) (fun _ => ?_)) | (with_reducible refine aDraw_quiet (by kernel_rfl) ?_) | ((with_reducible apply callV (g := 29)); exact (hasR_A _ _ hs)) | ((with_reducible apply callD (g := 29)); exact (hasR_A _ _ hs))))
    all_goals first
      | (rename_i h1 h2
         simp at h1
         symm
         rw [Bool.eq_false_iff]
         intro hof
         have := (ofB_bits s n (ofB_31 hof)).1 hof k (by omega) hlt
         rw [this] at h2
         cases h2)
      | (rename_i h1 h2
         simp at h1
         refine roundI (weak_cut1 (by (first | ((simp only [envIn, tabIn, envLt, tabLt, AV.lt, ruW, ASt.get, aget, ↓reduceIte, reduceCtorEq, Nat.reduceLT, Nat.reduceEqDiff, eq_self]) <;> (repeat' apply And.intro) <;> first | (rw [wrapK (by omega)]; done) | (simp; done) | omega) | fail))) ⟨k + 1, by omega, fun i hi hi2 => ?_, rfl⟩ (by simp only [slotN, ruW, ASt.get, aget, ↓reduceIte, Nat.reduceLT, Nat.reduceEqDiff, eq_self]; omega)
         rcases Nat.lt_or_ge i k with h3 | h3
         · exact hI i hi h3
         · obtain rfl : i = k := by omega
           exact h2)
      | (rename_i h1
         simp at h1
         refine roundI (weak_cut1 (by (first | ((simp only [envIn, tabIn, envLt, tabLt, AV.lt, ruW, ASt.get, aget, ↓reduceIte, reduceCtorEq, Nat.reduceLT, Nat.reduceEqDiff, eq_self]) <;> (repeat' apply And.intro) <;> first | (rw [wrapK (by omega)]; done) | (simp; done) | omega) | fail))) ⟨k + 1, by omega, fun i hi hi2 => ?_, rfl⟩ (by simp only [slotN, ruW, ASt.get, aget, ↓reduceIte, Nat.reduceLT, Nat.reduceEqDiff, eq_self]; omega)
         exact hI i hi (by omega))
      | trace_state
  · obtain rfl : k = 31 := by omega
    have h31 : (((31 : Nat) : Int) < 31) = False := by simp
    (repeat' (first | simp (maxSteps := 5000000) (implicitDefEqProofs := false) only [ruA, ruB, aEv, aBin, bin2, ASt.get, aget, ASt.put, aResL, aOne, ↓reduceIte, reduceCtorEq, Nat.reduceLT, Nat.reduceEqDiff, eq_self, h31] | (with_reducible refine aIf_split (fun _ => ?_) (fun _ => ?_)) | (with_reducible refine aSel_split (fun _ => ?_) (fun _ => ?_)) | (with_reducible refine aGd_split (fun _ => ?_) (fun _ => ?_)) | (with_reducible refine aDraw_quiet (by kernel_rfl) ?_)))
    · rename_i h1
      simp at h1
      by_cases h2 : s ≤ 2147483647
      · rw [(ofB_bits s n ⟨h1, by omega⟩).2 hI]
        simp [h2]
      · have h3 : ofB s (n : Int) = false := by
          rw [Bool.eq_false_iff]
          intro hof
          have := ofB_31 hof
          unfold in31 at this
          omega
        rw [h3]
        simp [h2]
    · rename_i h1
      simp at h1
      symm
      rw [Bool.eq_false_iff]
      intro hof
      have := ofB_31 hof
      unfold in31 at this
      omega
set_option maxRecDepth 100000 in
set_option maxHeartbeats 8000000 in
theorem checkR_A (m : Mod) (s : St) (hl : m.events.length ≤ 1000000) (ho : ok64 s.opn) (hd : ok64 s.don) (hdid : ∀ x ∈ s.did, ok64 x) : ADet Try.prog 7 [.agg (eMod m), .agg (eSt s)] (val (.bool (chkS m s))) := by
  refine adet_of_code mixedT Try.func7 rfl (by decide) Try.ntmps7 Try.results7 rfl (val_ok _) ?_
  by_cases hsz : s.vals.length = m.attrs.length ∧ s.did.length = m.events.length ∧ s.cnt.length = m.events.length
  · obtain ⟨h1, h2, h3⟩ := hsz
    have n1 : (((s.vals.length : Nat) : Int) != ((m.attrs.length : Nat) : Int)) = false := by simp [h1]
    have n2 : (((s.did.length : Nat) : Int) != ((m.events.length : Nat) : Int)) = false := by simp [h2]
    have n3 : (((s.cnt.length : Nat) : Int) != ((m.events.length : Nat) : Int)) = false := by simp [h3]
    have hall : chkS m s = (ofB s.opn m.stages.length && ofB s.don m.miles.length && allN (chkAt m s) m.events.length) := by simp [chkS, h1, h2, h3]
    rw [hall]
    obtain ⟨f, hf⟩ : ∃ f, f = chkAt m s := ⟨_, rfl⟩
    rw [← hf]
    have e0 : allN f 0 = true := rfl
    have loop : ∀ (b0 : Bool) (k : Nat), k < m.events.length → ∀ b, (b0 && allN f k) = b → (b0 && allN f (k + 1)) = (b && f k) := fun b0 k hk b hb => by
      rw [← hb]
      simp [allN, Bool.and_assoc]
    (repeat' (first | simp (maxSteps := 5000000) (implicitDefEqProofs := false) only [ruA, ruB, aEv, aTake, aLoad, aField, aLen, aBin, bin2, ASt.get, aget, ASt.put, aBox, aCells, oneC, oneCL, Value.oneCell', envOf, ↓reduceIte, reduceCtorEq, Nat.reduceLT, Nat.reduceEqDiff, Nat.reduceAdd, Nat.reduceLeDiff, eq_self, ne_eq, aLenM, false_or, tyF_32_5, tyA_26, tyS_26, tyE_26, tyF_35_0, tyA_23, tyS_23, tyE_23, tyF_32_0, tyA_22, tyS_22, tyE_22, tyF_35_3, tyA_33, tyS_33, tyE_33, tyF_35_4, tyF_35_1, tyA_3, tyS_3, tyF_32_4, tyA_25, tyS_25, tyE_25, tyF_35_2, tyF_32_7, tyA_28, tyS_28, tyE_28, n1, n2, n3] | (with_reducible refine aIf_split (fun _ => ?_) (fun _ => ?_)) | (with_reducible refine aSel_split (fun _ => ?_) (fun _ => ?_)) | (with_reducible refine aGd_split (fun _ => ?_) (fun _ => ?_)) | (with_reducible refine aDraw_quiet (by kernel_rfl) ?_) | ((with_reducible apply callV (g := 21)); exact (within_A _ _ ho)) | ((with_reducible apply callD (g := 21)); exact (within_A _ _ ho)) | ((with_reducible apply callV (g := 21)); exact (within_A _ _ hd)) | ((with_reducible apply callD (g := 21)); exact (within_A _ _ hd))))
    · rename_i h
      rw [h, Bool.true_and]
      obtain ⟨b0, hb0⟩ : ∃ b, ofB s.don m.miles.length = b := ⟨_, rfl⟩
      rw [hb0]
      refine aLoop_of (fun st => ∃ k : Nat, k ≤ m.events.length ∧ st = ⟨86, [(2, .op 0 0 0), (3, .op 1 0 0), (5, eI (m.events.length : Int)), (6, eB (b0 && allN f k)), (7, eI (k : Int))], [(0, some (.box 32 (eMod m))), (1, some (.box 35 (eSt s)))], 2⟩) (fun st => m.events.length - slotN st 7) ⟨_, (weak_cut1 (by (first | ((simp only [envIn, tabIn, envLt, tabLt, AObj.lt, AV.lt, AV.ltL, ruW, ASt.get, aget, ↓reduceIte, reduceCtorEq, Nat.reduceLT, Nat.reduceEqDiff, eq_self, e0, Bool.and_true]) <;> (repeat' apply And.intro) <;> first | (rw [wrapK (by omega)]; done) | (simp; done) | omega) | fail))), 0, Nat.zero_le _, rfl⟩ ?_
      rintro _ ⟨k, hk, rfl⟩
      by_cases hlt : k < m.events.length
      · have hd' : k < s.did.length := by omega
        have hc : k < s.cnt.length := by omega
        have eF : f k = (ofB s.did[k] m.users.length && decide (0 ≤ s.cnt[k]) && decide (s.cnt[k] ≤ m.events[k].times)) := by rw [hf]; simp [chkAt, hd', hc, hlt]
        have hs := loop b0 k hlt
        obtain ⟨b, hb⟩ : ∃ b, (b0 && allN f k) = b := ⟨_, rfl⟩
        have hs := hs b hb
        rw [hb]
        (repeat' (first | simp (maxSteps := 5000000) (implicitDefEqProofs := false) only [ruA, ruB, aEv, aTake, aLoad, aField, aIndex, aLen, aBin, bin2, ASt.get, aget, ASt.put, ↓reduceIte, reduceCtorEq, Nat.reduceLT, Nat.reduceEqDiff, Nat.reduceAdd, Nat.reduceLeDiff, eq_self, ne_eq, dref, tyF_32_5, tyA_26, tyS_26, tyE_26, tyA_22, tyS_22, tyE_22, tyF_35_3, tyA_33, tyS_33, tyE_33, tyF_35_4, tyA_3, tyS_3, tyF_32_2, tyF_56_4, row_at, hlt, hd', hc] | (with_reducible refine aIf_split (fun _ => ?_) (fun _ => ?_)) | (with_reducible refine aSel_split (fun _ => ?_) (fun _ => ?_)) | (with_reducible refine aGd_split (fun _ => ?_) (fun _ => ?_)) | (with_reducible refine aDraw_quiet (by kernel_rfl) ?_) | ((with_reducible apply callV (g := 21)); exact (within_A _ _ (hdid _ (List.getElem_mem hd')))) | ((with_reducible apply callD (g := 21)); exact (within_A _ _ (hdid _ (List.getElem_mem hd'))))))
        · have hv : (b0 && allN f (k + 1)) = decide (s.cnt[k] ≤ m.events[k].times) := by grind
          exact roundI (weak_cut1 (by (first | ((simp only [envIn, tabIn, envLt, tabLt, AObj.lt, AV.lt, AV.ltL, ruW, ASt.get, aget, ↓reduceIte, Nat.reduceLT, Nat.reduceEqDiff, eq_self, hv]) <;> (repeat' apply And.intro) <;> first | (rw [wrapK (by omega)]; done) | (simp; done) | omega) | fail))) ⟨k + 1, by omega, rfl⟩ (by simp only [slotN, ruW, ASt.get, aget, ↓reduceIte, Nat.reduceLT, Nat.reduceEqDiff, eq_self]; omega)
        all_goals
          have hv : (b0 && allN f (k + 1)) = false := by grind
          exact roundI (weak_cut1 (by (first | ((simp only [envIn, tabIn, envLt, tabLt, AObj.lt, AV.lt, AV.ltL, ruW, ASt.get, aget, ↓reduceIte, Nat.reduceLT, Nat.reduceEqDiff, eq_self, hv]) <;> (repeat' apply And.intro) <;> first | (rw [wrapK (by omega)]; done) | (simp; done) | omega) | fail))) ⟨k + 1, by omega, rfl⟩ (by simp only [slotN, ruW, ASt.get, aget, ↓reduceIte, Nat.reduceLT, Nat.reduceEqDiff, eq_self]; omega)
      · obtain rfl : k = m.events.length := by omega
        (repeat' (first | simp (maxSteps := 5000000) (implicitDefEqProofs := false) only [ruA, ruB, aEv, aBin, bin2, ASt.get, aget, ASt.put, aResL, aOne, ↓reduceIte, Nat.reduceLT, Nat.reduceEqDiff, eq_self, hlt] | (with_reducible refine aIf_split (fun _ => ?_) (fun _ => ?_)) | (with_reducible refine aSel_split (fun _ => ?_) (fun _ => ?_)) | (with_reducible refine aGd_split (fun _ => ?_) (fun _ => ?_)) | (with_reducible refine aDraw_quiet (by kernel_rfl) ?_)))
    · rename_i h
      rw [h]
      refine aLoop_of (fun st => ∃ k : Nat, k ≤ m.events.length ∧ st = ⟨86, [(2, .op 0 0 0), (3, .op 1 0 0), (5, eI (m.events.length : Int)), (6, eB false), (7, eI (k : Int))], [(0, some (.box 32 (eMod m))), (1, some (.box 35 (eSt s)))], 2⟩) (fun st => m.events.length - slotN st 7) ⟨_, (weak_cut1 (by (first | ((simp only [envIn, tabIn, envLt, tabLt, AObj.lt, AV.lt, AV.ltL, ruW, ASt.get, aget, ↓reduceIte, reduceCtorEq, Nat.reduceLT, Nat.reduceEqDiff, eq_self]) <;> (repeat' apply And.intro) <;> first | (rw [wrapK (by omega)]; done) | (simp; done) | omega) | fail))), 0, Nat.zero_le _, rfl⟩ ?_
      rintro _ ⟨k, hk, rfl⟩
      by_cases hlt : k < m.events.length
      · (repeat' (first | simp (maxSteps := 5000000) (implicitDefEqProofs := false) only [ruA, ruB, aEv, aBin, bin2, ASt.get, aget, ASt.put, ↓reduceIte, Nat.reduceLT, Nat.reduceEqDiff, eq_self, hlt] | (with_reducible refine aIf_split (fun _ => ?_) (fun _ => ?_)) | (with_reducible refine aSel_split (fun _ => ?_) (fun _ => ?_)) | (with_reducible refine aGd_split (fun _ => ?_) (fun _ => ?_)) | (with_reducible refine aDraw_quiet (by kernel_rfl) ?_)))
        all_goals first
          | exact roundI (weak_cut1 (by (first | ((simp only [envIn, tabIn, envLt, tabLt, AObj.lt, AV.lt, AV.ltL, ruW, ASt.get, aget, ↓reduceIte, Nat.reduceLT, Nat.reduceEqDiff, eq_self]) <;> (repeat' apply And.intro) <;> first | (rw [wrapK (by omega)]; done) | (simp; done) | omega) | fail))) ⟨k + 1, by omega, rfl⟩ (by simp only [slotN, ruW, ASt.get, aget, ↓reduceIte, Nat.reduceLT, Nat.reduceEqDiff, eq_self]; omega)
          | trace_state
      · obtain rfl : k = m.events.length := by omega
        (repeat' (first | simp (maxSteps := 5000000) (implicitDefEqProofs := false) only [ruA, ruB, aEv, aBin, bin2, ASt.get, aget, ASt.put, aResL, aOne, ↓reduceIte, Nat.reduceLT, Nat.reduceEqDiff, eq_self, hlt] | (with_reducible refine aIf_split (fun _ => ?_) (fun _ => ?_)) | (with_reducible refine aSel_split (fun _ => ?_) (fun _ => ?_)) | (with_reducible refine aGd_split (fun _ => ?_) (fun _ => ?_)) | (with_reducible refine aDraw_quiet (by kernel_rfl) ?_)))
        simp
  · have hall : chkS m s = false := by
      unfold chkS
      rw [Bool.eq_false_iff]
      simp only [ne_eq, Bool.and_eq_true, decide_eq_true_eq]
      grind
    rw [hall]
    (repeat' (first | simp (maxSteps := 5000000) (implicitDefEqProofs := false) only [ruA, ruB, aEv, aTake, aLoad, aField, aLen, aBin, bin2, ASt.get, aget, ASt.put, aBox, aCells, oneC, oneCL, Value.oneCell', envOf, aResL, aOne, ↓reduceIte, reduceCtorEq, Nat.reduceLT, Nat.reduceEqDiff, Nat.reduceAdd, Nat.reduceLeDiff, eq_self, ne_eq, aLenM, false_or, tyF_32_5, tyA_26, tyS_26, tyE_26, tyF_35_0, tyA_23, tyS_23, tyE_23, tyF_32_0, tyA_22, tyS_22, tyE_22, tyF_35_3, tyA_33, tyS_33, tyE_33, tyF_35_4, tyF_35_1, tyA_3, tyS_3, tyF_32_4, tyA_25, tyS_25, tyE_25] | (with_reducible refine aIf_split (fun _ => ?_) (fun _ => ?_)) | (with_reducible refine aSel_split (fun _ => ?_) (fun _ => ?_)) | (with_reducible refine aGd_split (fun _ => ?_) (fun _ => ?_)) | (with_reducible refine aDraw_quiet (by kernel_rfl) ?_)))
    all_goals first
      | rfl
      | (exfalso; grind)
      | trace_state
end
section
open Go.RowKit

theorem ofB_mk {s : Int} {n : Nat} (h1 : inR s) (h2 : ∀ i : Nat, n ≤ i → i < 31 → hasB s (i : Int) = false) : ofB s (n : Int) = true := (ofB_bits s n h1).2 h2
theorem ofB_bit {s : Int} {n : Nat} (h : ofB s (n : Int) = true) {i : Nat} (hi : n ≤ i) (hl : i < 31) : hasB s (i : Int) = false := (ofB_bits s n (ofB_31 h)).1 h i hi hl
theorem ofB_with {s : Int} {n : Nat} {i : Int} (h : ofB s (n : Int) = true) (h0 : 0 ≤ i) (h1 : i < n) : ofB (withB s i) (n : Int) = true := ofB_mk (withB_in s i) fun j hj hl => by
  rw [hasB_with, ofB_bit h hj hl]
  have : ((j : Int) == i) = false := by simp; omega
  simp [this]
theorem ofB_fold {s : Int} {n : Nat} {l : List Int} (h : ofB s (n : Int) = true) : ofB (l.foldl withoutB s) (n : Int) = true := ofB_mk (fold_in l s (ofB_31 h)) fun j hj hl => by
  rw [Bool.eq_false_iff]
  intro h2
  have := ((hasB_fold l s (j : Int)).1 h2).1
  rw [ofB_bit h hj hl] at this
  cases this
theorem ofB_undo {l : List Ml} {st d : Int} {n : Nat} (h : ofB d (n : Int) = true) (k : Nat) : ofB (undo l st d k) (n : Int) = true := ofB_mk (undo_in l st d (ofB_31 h) k) fun j hj hl => by
  rw [Bool.eq_false_iff]
  intro h2
  have := (hasB_undo l st d j k h2).1
  rw [ofB_bit h hj hl] at this
  cases this
theorem sentry_mile {m : Mod} {x : Bool × Int} {st ev mi : Int} {cond : List Inst} (hx : x.1 = true) (h : sentryM m x = some (st, ev, cond, mi)) : 0 ≤ mi ∧ mi < (m.miles.length : Int) := by
  unfold sentryM at h
  rw [if_pos hx] at h
  split at h
  · rename_i h0
    cases hk : m.miles[x.2.toNat]? with
    | none => rw [hk] at h; cases h
    | some K =>
      rw [hk] at h
      simp at h
      have := (List.getElem?_eq_some_iff.1 hk).1
      rw [← h.2.2.2]
      omega
  · cases h
theorem turn_of {m : Mod} {event : Int} {s : St} {x : Bool × Int} (h1 : ofB s.opn (m.stages.length : Int) = true) (h2 : ofB s.don (m.miles.length : Int) = true) : ofB (turnM m event s x).opn (m.stages.length : Int) = true ∧ ofB (turnM m event s x).don (m.miles.length : Int) = true := by
  unfold turnM
  split
  · unfold fireM
    cases hx : sentryM m x with
    | none => exact ⟨h1, h2⟩
    | some q =>
      obtain ⟨st, ev, cond, mi⟩ := q
      simp only
      split
      · rename_i hin
        have hst : 0 ≤ st ∧ st < (m.stages.length : Int) := by simpa [inS] using hin
        split
        · rename_i hm
          have hmi := sentry_mile hm hx
          exact ⟨ofB_fold h1, ofB_with h2 hmi.1 hmi.2⟩
        · exact ⟨ofB_with h1 hst.1 hst.2, ofB_undo h2 _⟩
      · exact ⟨h1, h2⟩
  · exact ⟨h1, h2⟩
theorem fold_of {m : Mod} {event : Int} : ∀ (l : List (Bool × Int)) {s : St}, ofB s.opn (m.stages.length : Int) = true → ofB s.don (m.miles.length : Int) = true → ofB (l.foldl (turnM m event) s).opn (m.stages.length : Int) = true ∧ ofB (l.foldl (turnM m event) s).don (m.miles.length : Int) = true
  | [], s, h1, h2 => ⟨h1, h2⟩
  | x :: l, s, h1, h2 => by
    obtain ⟨h3, h4⟩ := turn_of (event := event) (x := x) h1 h2
    exact fold_of l h3 h4
/-- who may move, and the state may be: what is known of the event -/
theorem enabled_is {m : Mod} {s : St} {e : Nat} {u : Int} (h : enabledM m s (e : Int) u = true) : ∃ he : e < m.events.length, 0 ≤ u ∧ u < (m.users.length : Int) ∧ (m.events[e].times ≤ 0 ∨ atI s.cnt (e : Int) < m.events[e].times) := by
  obtain ⟨k, hk, hlt, hx⟩ := evAt_some h
  obtain rfl : e = k := by omega
  refine ⟨hlt, ?_⟩
  unfold enabledM freeM at h
  rw [hx] at h
  simp only [Bool.and_eq_true, Bool.or_eq_true, decide_eq_true_eq, ofR] at h
  obtain ⟨⟨⟨_, h1⟩, h2⟩, _⟩ := h
  exact ⟨h1.1.1.2, h1.1.2, h2⟩
theorem chk_iff {m : Mod} {s : St} : chkS m s = true ↔ s.vals.length = m.attrs.length ∧ s.did.length = m.events.length ∧ s.cnt.length = m.events.length ∧ ofB s.opn (m.stages.length : Int) = true ∧ ofB s.don (m.miles.length : Int) = true ∧ ∀ i, i < m.events.length → chkAt m s i = true := by
  unfold chkS
  simp only [Bool.and_eq_true, decide_eq_true_eq, allN_iff, and_assoc]
theorem chkAt_iff {m : Mod} {s : St} {i : Nat} (hi : i < m.events.length) : chkAt m s i = true ↔ ofB (s.did.getD i 0) (m.users.length : Int) = true ∧ 0 ≤ s.cnt.getD i 0 ∧ s.cnt.getD i 0 ≤ m.events[i].times := by
  unfold chkAt
  simp [hi, and_assoc]
theorem take_is {m : Mod} {s : St} {e : Nat} {u : Int} {vals : List Int} (he : e < m.events.length) : takeM m s ⟨(e : Int), u, vals⟩ = ⟨setVals m.events[e].sets vals s.vals m.events[e].sets.length, s.opn, s.don, s.did.set e (withB (s.did.getD e 0) u), if 0 < m.events[e].times then s.cnt.set e (s.cnt.getD e 0 + 1) else s.cnt⟩ := by
  unfold takeM evAt
  simp [he]
/-- the state behind a move may be -/
theorem chk_move {m : Mod} {s : St} {e : Nat} {u : Int} {vals : List Int} (hc : chkS m s = true) (hen : enabledM m s (e : Int) u = true) (k : Nat) : chkS m (passM m (e : Int) (takeM m s ⟨(e : Int), u, vals⟩) k) = true := by
  obtain ⟨he, hu0, hu1, htm⟩ := enabled_is hen
  obtain ⟨h1, h2, h3, h4, h5, h6⟩ := chk_iff.1 hc
  obtain ⟨v1, v2, v3⟩ := fold_vals m (e : Int) (m.order.take k) (takeM m s ⟨(e : Int), u, vals⟩)
  have ht := take_is (m := m) (s := s) (u := u) (vals := vals) he
  have hof := fold_of (m := m) (event := (e : Int)) (m.order.take k) (s := takeM m s ⟨(e : Int), u, vals⟩) (by rw [ht]; exact h4) (by rw [ht]; exact h5)
  unfold passM
  refine chk_iff.2 ⟨?_, ?_, ?_, hof.1, hof.2, fun i hi => (chkAt_iff hi).2 ?_⟩
  · rw [v1, ht]
    simpa [setVals_len] using h1
  · rw [v2, ht]
    simpa using h2
  · rw [v3, ht]
    simp only
    split
    · simpa using h3
    · exact h3
  · obtain ⟨g1, g2, g3⟩ := (chkAt_iff hi).1 (h6 i hi)
    rw [v2, v3, ht]
    simp only
    refine ⟨?_, ?_⟩
    · by_cases e1 : i = e
      · subst e1
        have : (s.did.set i (withB (s.did.getD i 0) u)).getD i 0 = withB (s.did.getD i 0) u := by simp [List.getD, show i < s.did.length by omega]
        rw [this]
        exact ofB_with g1 hu0 hu1
      · have : (s.did.set e (withB (s.did.getD e 0) u)).getD i 0 = s.did.getD i 0 := by simp [List.getD, Ne.symm e1]
        rw [this]
        exact g1
    · split
      · rename_i hpos
        by_cases e1 : i = e
        · subst e1
          have : (s.cnt.set i (s.cnt.getD i 0 + 1)).getD i 0 = s.cnt.getD i 0 + 1 := by simp [List.getD, show i < s.cnt.length by omega]
          rw [this]
          have ha : atI s.cnt (i : Int) = s.cnt.getD i 0 := by
            unfold atI
            rw [if_pos ⟨by omega, by omega⟩]
            rfl
          rw [ha] at htm
          omega
        · have : (s.cnt.set e (s.cnt.getD e 0 + 1)).getD i 0 = s.cnt.getD i 0 := by simp [List.getD, Ne.symm e1]
          rw [this]
          exact ⟨g2, g3⟩
      · exact ⟨g2, g3⟩
/-- which moves there are, but for their numbers -/
noncomputable def mvsE (m : Mod) (s : St) (e : Nat) : List Mv := (whoM m s (e : Int)).map fun u => ⟨(e : Int), u, List.replicate ((m.events[e]?.map (·.sets.length)).getD 0) 0⟩
noncomputable def mvsM (m : Mod) (s : St) : Nat → List Mv
  | 0 => []
  | e + 1 => mvsM m s e ++ mvsE m s e
theorem filtN_mem {f : Nat → Bool} : ∀ {n : Nat} {x : Int}, x ∈ filtN f n ↔ ∃ k : Nat, k < n ∧ x = (k : Int) ∧ f k = true
  | 0, x => by simp [filtN]
  | n + 1, x => by
    unfold filtN
    split
    · rename_i h
      rw [List.mem_append, filtN_mem, List.mem_singleton]
      constructor
      · rintro (⟨k, h1, h2, h3⟩ | rfl)
        · exact ⟨k, by omega, h2, h3⟩
        · exact ⟨n, by omega, rfl, h⟩
      · rintro ⟨k, h1, h2, h3⟩
        by_cases e : k = n
        · exact .inr (by rw [h2, e])
        · exact .inl ⟨k, by omega, h2, h3⟩
    · rename_i h
      rw [filtN_mem]
      constructor
      · rintro ⟨k, h1, h2, h3⟩
        exact ⟨k, by omega, h2, h3⟩
      · rintro ⟨k, h1, h2, h3⟩
        by_cases e : k = n
        · exact absurd (e ▸ h3) h
        · exact ⟨k, by omega, h2, h3⟩
/-- a move that is listed -/
structure MvOf (m : Mod) (s : St) (v : Mv) (e : Nat) : Prop where
  ev : v.event = (e : Int)
  lt : e < m.events.length
  en : enabledM m s (e : Int) v.user = true
  len : v.vals.length = (m.events[e]?.map (·.sets.length)).getD 0
theorem mvs_of {m : Mod} {s : St} : ∀ {n : Nat}, n ≤ m.events.length → ∀ v ∈ mvsM m s n, ∃ e, MvOf m s v e
  | 0, _, v, h => by simp [mvsM] at h
  | n + 1, hn, v, h => by
    rw [mvsM, List.mem_append] at h
    rcases h with h | h
    · exact mvs_of (by omega) v h
    · obtain ⟨u, hu, rfl⟩ := List.mem_map.1 h
      obtain ⟨k, hk, rfl, hf⟩ := filtN_mem.1 hu
      exact ⟨n, rfl, by omega, hf, by simp⟩
theorem any_none {m : Mod} {s : St} (h : mvsM m s m.events.length = []) : anyM m s = false := by
  rw [Bool.eq_false_iff]
  intro ha
  obtain ⟨e, he, h1⟩ := (anyN_iff _ _).1 ha
  obtain ⟨u, hu, h2⟩ := (anyN_iff _ _).1 h1
  have key : ∀ n, e < n → ∃ v, v ∈ mvsM m s n := by
    intro n hn
    induction n with
    | zero => omega
    | succ n ih =>
      rw [mvsM]
      by_cases e1 : e = n
      · subst e1
        exact ⟨_, List.mem_append.2 (.inr (List.mem_map.2 ⟨(u : Int), filtN_mem.2 ⟨u, hu, rfl, h2⟩, rfl⟩))⟩
      · obtain ⟨v, hv⟩ := ih (by omega)
        exact ⟨v, List.mem_append.2 (.inl hv)⟩
  obtain ⟨v, hv⟩ := key _ he
  rw [h] at hv
  cases hv
theorem may_of {m : Mod} {s : St} {v : Mv} {e : Nat} (hc : chkS m s = true) (h : MvOf m s v e) : mayM m s v = 0 ∧ idleM v = false := by
  have hid : idleM v = false := by
    unfold idleM
    have : (v.event == -1) = false := by rw [h.ev]; simp
    rw [this]
    rfl
  refine ⟨?_, hid⟩
  unfold mayM
  rw [if_neg (by rw [hc]; simp), if_neg (by rw [hid]; simp), h.ev, if_neg (by rw [h.en]; simp), if_pos]
  rw [h.len]
  unfold setsLen
  rfl
theorem do_of {m : Mod} {s : St} {v : Mv} {e : Nat} (hc : chkS m s = true) (h : MvOf m s v e) : doM m s v = (passM m (e : Int) (takeM m s v) m.order.length, 0) := by
  obtain ⟨h1, h2⟩ := may_of hc h
  unfold doM
  rw [if_pos h1, if_neg (by rw [h2]; simp), h.ev]
theorem chk_of {m : Mod} {s : St} {v : Mv} {e : Nat} (hc : chkS m s = true) (h : MvOf m s v e) : chkS m (doM m s v).1 = true := by
  rw [do_of hc h]
  obtain ⟨ve, vu, vv⟩ := v
  have he := h.ev
  simp only at he
  subst he
  exact chk_move hc h.en _
theorem snd_of {m : Mod} {s : St} {v : Mv} {e : Nat} (hci : circleL (pars m) < 0) (hc : chkS m s = true) (h : MvOf m s v e) (hs : sndP m s.opn) : sndP m (doM m s v).1.opn := by
  rw [do_of hc h]
  obtain ⟨ve, vu, vv⟩ := v
  have he := h.ev
  simp only at he
  subst he
  refine fold_sound hci (e : Int) _ _ ?_
  rw [take_is h.lt]
  exact hs
/-- nobody's part, and no count, becomes less -/
theorem more_of {m : Mod} {s : St} {v : Mv} {e : Nat} (hc : chkS m s = true) (h : MvOf m s v e) : (∀ k, k < s.did.length → ∀ i : Int, hasB (s.did.getD k 0) i = true → hasB ((doM m s v).1.did.getD k 0) i = true) ∧ (∀ k, k < s.cnt.length → s.cnt.getD k 0 ≤ (doM m s v).1.cnt.getD k 0) := by
  rw [do_of hc h]
  obtain ⟨ve, vu, vv⟩ := v
  have he := h.ev
  simp only at he
  subst he
  obtain ⟨v1, v2, v3⟩ := fold_vals m (e : Int) (m.order.take m.order.length) (takeM m s ⟨(e : Int), vu, vv⟩)
  unfold passM
  rw [v2, v3, take_is h.lt]
  refine ⟨fun k hk i hb => ?_, fun k hk => ?_⟩
  · by_cases e1 : k = e
    · subst e1
      have : (s.did.set k (withB (s.did.getD k 0) vu)).getD k 0 = withB (s.did.getD k 0) vu := by simp [List.getD, hk]
      simp only [this]
      rw [hasB_with, hb]
      simp
    · have : (s.did.set e (withB (s.did.getD e 0) vu)).getD k 0 = s.did.getD k 0 := by simp [List.getD, Ne.symm e1]
      simp only [this]
      exact hb
  · simp only
    split
    · by_cases e1 : k = e
      · subst e1
        have : (s.cnt.set k (s.cnt.getD k 0 + 1)).getD k 0 = s.cnt.getD k 0 + 1 := by simp [List.getD, hk]
        rw [this]
        omega
      · have : (s.cnt.set e (s.cnt.getD e 0 + 1)).getD k 0 = s.cnt.getD k 0 := by simp [List.getD, Ne.symm e1]
        rw [this]
        exact Int.le_refl _
    · exact Int.le_refl _
end
section
open Go.RowKit
def strA : ByteArray := { data := #[97] }
def strU : ByteArray := { data := #[117] }
def ex19M : Mod := ⟨[strA], [0], [strU], [(ByteArray.empty, 1)], [(ByteArray.empty, -1)], [⟨ByteArray.empty, 0, 0, [0], 1⟩], [], [], [], []⟩
def ex19S : St := ⟨[0], 1, 0, [0], [0]⟩
def ex19V : Mv := ⟨0, 0, [7]⟩
theorem ex19_evAt : evAt ex19M 0 = some ⟨ByteArray.empty, 0, 0, [0], 1⟩ := rfl
theorem ex19_has : hasB 1 0 = true := by decide
theorem ex19_en : enabledM ex19M ex19S 0 0 = true := by
  have h1 : freeM ex19M ex19S 0 0 = true := by
    unfold freeM
    rw [ex19_evAt]
    simp [completeM, ex19M, ex19S, anyN, ofR, atI, ex19_has]
  unfold enabledM
  rw [h1]
  simp [apartM, anyN, ex19M]
theorem ex19_may : mayM ex19M ex19S ex19V = 0 := by
  have h1 : chkS ex19M ex19S = true := by
    simp [chkS, ex19M, ex19S, allN, chkAt, ofB, firstI]
    decide
  have h2 : idleM ex19V = false := by simp [idleM, ex19V]
  have h3 : enabledM ex19M ex19S ex19V.event ex19V.user = true := ex19_en
  have h4 : ex19V.vals.length = setsLen ex19M ex19V.event := rfl
  unfold mayM
  rw [h1, h2, h3, if_pos h4]
  simp
theorem ex19_do : doM ex19M ex19S ex19V = (⟨[7], 1, 0, [1], [1]⟩, 0) := by
  have h2 : idleM ex19V = false := by simp [idleM, ex19V]
  have h3 : takeM ex19M ex19S ex19V = ⟨[7], 1, 0, [withB 0 0], [1]⟩ := by
    unfold takeM
    have : evAt ex19M ex19V.event = some ⟨ByteArray.empty, 0, 0, [0], 1⟩ := rfl
    rw [this]
    simp [setVals, ex19S, ex19V]
  have h4 : withB 0 0 = 1 := by decide
  unfold doM
  rw [if_pos ex19_may, h2, h3, h4]
  rfl
theorem ex19_fit : Fit ex19M := by
  refine ⟨by simp [greatS, ex19M], by simp [ex19M], by simp [ex19M], by simp [ex19M]⟩
theorem ex19_A : ADet Try.prog 10 [.agg (eMod ex19M), .agg (eSt ex19S), .agg (eMv ex19V)] ⟨.tup [.agg (eSt ⟨[7], 1, 0, [1], [1]⟩), eI 0], [], 0⟩ := by
  have h := do_A ex19M ex19S ex19V ex19_fit (by simp [FitS, ex19S]) (by simp [ex19V]) (by simp [condOk, ex19M]) (by simp [ex19M, ok64]) (by simp [ex19S, ok64]) (by simp [ex19V, ok64]) (by simp [ex19M, ok64]) (fun h => by simp [idleM, ex19V] at h)
  rw [ex19_do] at h
  exact h
theorem idleMv_A : ADet Try.prog 24 [] ⟨.agg [eI (-1), eI (-1), .c (.slice none 0 0)], [], 0⟩ := by
  refine adet_of_code mixedT Try.func24 rfl (by decide) Try.ntmps24 Try.results24 rfl (⟨fun id o h => (by cases h), by simp [AV.lt, AV.ltL]⟩) ?_
  (repeat' (first | simp (maxSteps := 5000000) (implicitDefEqProofs := false) only [ruA, ruB, aEv, aTake, aLoad, ASt.get, aget, ASt.put, aStore, aBox, aBuild, aFill, oneParts, aCells, oneC, oneCL, Value.cells, Value.oneCell', envOf, aResL, aOne, ↓reduceIte, reduceCtorEq, Nat.reduceLT, Nat.reduceAdd, Nat.reduceLeDiff, eq_self, tyA_43, tyS_43, tyZ_43, tyB_43] | (with_reducible refine aIf_split (fun _ => ?_) (fun _ => ?_)) | (with_reducible refine aSel_split (fun _ => ?_) (fun _ => ?_)) | (with_reducible refine aGd_split (fun _ => ?_) (fun _ => ?_))))
  exact gives_tree (by simp [AV.ren, AV.renL])
set_option maxRecDepth 100000 in
set_option maxHeartbeats 8000000 in
theorem awake19_A : ADet Try.prog 8 [] (val (.bool true)) := by
  refine adet_of_code mixedT Try.func8 rfl (by decide) Try.ntmps8 Try.results8 rfl (val_ok _) ?_
  (repeat' (first | simp (maxSteps := 5000000) (implicitDefEqProofs := false) only [ruA, ruB, aEv, aTake, aLoad, ASt.get, aget, ASt.put, aStore, aBox, aBuildSlice, aBuild, aFill, oneParts, aCells, oneC, oneCL, treeML, treeM_c, treeM_sl, aLit, Value.cells, Value.oneCell', envOf, ↓reduceIte, reduceCtorEq, Nat.reduceLT, Nat.reduceEqDiff, Nat.reduceAdd, Nat.reduceMul, Nat.reduceLeDiff, eq_self, aBuildSlice1, frzs, frz1, ownIds, AV.frz, AV.frzL, frzEnv, frzTab, AObj.frz, tyR_22, tyR_23, tyB_65, tyR_24, tyB_67, tyR_25, tyR_33, tyB_56, tyR_26, tyB_32, tyZ_32, tyS_32, tyA_32, tyB_35, tyB_43] | (with_reducible refine aIf_split (fun _ => ?_) (fun _ => ?_)) | (with_reducible refine aSel_split (fun _ => ?_) (fun _ => ?_)) | (with_reducible refine aGd_split (fun _ => ?_) (fun _ => ?_))))
  refine ⟨rfl, rfl, rfl, rfl, rfl, rfl, rfl, rfl, rfl, rfl, rfl, ?_⟩
  refine callZ [0, 1, 2, 3, 4, 6, 8, 9, 10, 11] (R := ⟨.tup [.agg (eSt ⟨[7], 1, 0, [1], [1]⟩), eI 0], [], 0⟩) ?_ ?_ ?_
  · simp (maxSteps := 5000000) (implicitDefEqProofs := false) only [ruB, ↓reduceIte, reduceCtorEq, Nat.reduceEqDiff, eq_self, dref, dref1, frzs, frz1, AV.frz, AV.frzL, frzEnv, frzAVs, frzAV, frzTab, AObj.frz]
    exact ex19_A.fits ⟨.agg ⟨.refl _, .refl _, .refl _, .refl _, .refl _, .refl _, .nil 3, .nil 5, .nil 2, .nil 2, trivial⟩, .one (.refl _), .one (.refl _), trivial⟩
  · simp (maxSteps := 5000000) (implicitDefEqProofs := false) only [ruB, ↓reduceIte, reduceCtorEq, Nat.reduceEqDiff, eq_self, frz1, AV.frz, AV.frzL, frzEnv, frzAVs, frzAV, frzTab, AObj.frz]
    left
    simp [roL, roA, treeL, treeC]
  · have z1 : (0 : Int) < ((1 : Nat) : Int) := by decide
    have z2 : (((1 : Nat) : Int) == 1) = true := by decide
    (repeat' (first | simp (maxSteps := 5000000) (implicitDefEqProofs := false) only [ruA, ruB, aEv, aTake, aLoad, aField, aIndex, aLen, aBin, bin2, aExtract, ASt.get, aget, ASt.put, aStore, aBox, aCells, oneC, oneCL, Value.cells, Value.oneCell', aResL, aOne, ↓reduceIte, reduceCtorEq, Nat.reduceLT, Nat.reduceEqDiff, Nat.reduceAdd, Nat.reduceLeDiff, eq_self, ne_eq, frzs, frz1, AV.frz, AV.frzL, frzEnv, AV.shift, AV.shiftL, frzTab, AObj.frz, aLenM, tyZ_35, tyS_35, tyF_35_0, tyA_23, tyS_23, tyE_23, tyA_2, tyS_2, tyF_35_4, tyA_33, tyS_33, tyE_33, tyA_3, tyS_3, tyF_35_3, Int.toNat_zero, Int.reduceBEq, z1, z2] | (with_reducible refine aIf_split (fun _ => ?_) (fun _ => ?_)) | (with_reducible refine aSel_split (fun _ => ?_) (fun _ => ?_)) | (with_reducible refine aGd_split (fun _ => ?_) (fun _ => ?_))))
end
section
open Go.RowKit
theorem weak_frz (st : ASt) (id : Nat) : Weak st (frz1 st id) := fun cx a w L h => ⟨L, (conc_frz1 h id).1, fun b hb => ⟨hb.1, hb.2.1, fun k o hk => by
  unfold frz1 at hk
  split at hk
  · simp only [ATab.get_cons, frzTab_get] at hk
    split at hk
    · cases hk
    · cases hg : st.tab.get k with
      | none => simp [hg] at hk
      | some o' => exact hb.2.2 k o' hg
  · exact hb.2.2 k o hk⟩⟩
end
section
open Go.RowKit
theorem envIn_any {st : ASt} : ∀ {l : List (Nat × AV)} (t : Nat), envIn st l → aget l t = st.get t ∨ aget l t = .any
  | [], t, _ => .inr rfl
  | (k, av) :: l, t, h => by
    unfold aget
    split
    · rename_i e
      rw [e]
      exact .inl h.1.symm
    · exact envIn_any t h.2
/-- slots are let go, objects are not -/
theorem weak_env {st : ASt} {env : List (Nat × AV)} (he : envIn st env) : Weak st ⟨st.n, env, st.tab, st.next⟩ := fun cx a w L h =>
  ⟨L, ⟨h.lay, h.size, h.defers, h.young, fun t => by
    show RVx cx w st.tab L _ (if t < st.n then aget env t else .any) ∧ (if t < st.n then aget env t else .any).lt st.next
    split
    case isFalse => exact ⟨.tree (.any _), trivial⟩
    rcases envIn_any t he with h1 | h1
    · rw [h1]
      exact h.env t
    · rw [h1]
      exact ⟨.tree (.any _), trivial⟩⟩, fun b hb => hb⟩
/-- a slice of its own may name what is its own -/
theorem weak_nest {st : ASt} (id : Nat) {e : TypeId} {sz : Nat} {rows : List (List AV)} (hid : st.tab.get id = some (.row e sz rows)) : Weak st ⟨st.n, st.env, (id, some (.nest e sz rows)) :: st.tab, st.next⟩ := by
  intro cx a w L h
  have hget : ∀ k o, ATab.get ((id, some (.nest e sz rows)) :: st.tab) k = some o → ∃ o', st.tab.get k = some o' ∧ o.sz = o'.sz := fun k o hk => by
    rw [ATab.get_cons] at hk
    split at hk
    · rename_i e1
      cases hk
      exact ⟨.row e sz rows, by rw [e1]; exact hid, rfl⟩
    · exact ⟨o, hk, rfl⟩
  have hext : Ext cx w st.tab L st.next w ((id, some (.nest e sz rows)) :: st.tab) L := ⟨fun _ _ => rfl, fun b hb => ⟨hb.1, hb.2.1, fun k o hk => by
    obtain ⟨o', h1, _⟩ := hget k o hk
    exact hb.2.2 k o' h1⟩, fun k p _ hk => by
    unfold Kx at *
    cases ho : ATab.get ((id, some (.nest e sz rows)) :: st.tab) k with
    | none => simp [ho] at hk
    | some o =>
      obtain ⟨o', h1, h2⟩ := hget k o ho
      rw [h1]
      simpa [ho, h2] using hk⟩
  have hob := h.lay.objs id _ hid
  refine ⟨L, ⟨⟨h.lay.below, fun k o hk => ?_, fun k k' o o' g h1 h2 => ?_, fun b hb => ⟨(h.lay.ex b hb).1, fun k o hk => by
    obtain ⟨o', h1, _⟩ := hget k o hk
    exact (h.lay.ex b hb).2 k o' h1⟩⟩, h.size, h.defers.mono (fun _ _ => rfl) hext.sub, fun k o hk => ?_, fun t => ⟨hext.rv (h.env t).1 (h.env t).2, (h.env t).2⟩⟩, hext.sub⟩
  · rw [ATab.get_cons] at hk
    split at hk
    · rename_i e1
      cases hk
      rw [e1]
      obtain ⟨h1, xs, h2, h3, h4⟩ := hob
      exact ⟨h1, xs, h2, h3, fun i j row av h5 h6 => (h4 i j row av h5 h6).elim fun x hx => ⟨x, hx.1, .tree (hext.rt hx.2)⟩⟩
    · exact hext.obj (h.lay.objs k o hk) (h.young k o hk).2 fun _ _ => rfl
  · obtain ⟨o1, h3, _⟩ := hget k o h1
    obtain ⟨o2, h4, _⟩ := hget k' o' h2
    exact h.lay.sep k k' o1 o2 g h3 h4
  · rw [ATab.get_cons] at hk
    split at hk
    · rename_i e1
      cases hk
      refine ⟨by rw [e1]; exact (h.young id _ hid).1, fun row hr => ltL_iff.2 fun av ha => ?_⟩
      obtain ⟨i, hi⟩ := List.getElem?_of_mem hr
      obtain ⟨j, hj⟩ := List.getElem?_of_mem ha
      obtain ⟨_, xs, _, _, h4⟩ := hob
      obtain ⟨x, _, hx⟩ := h4 i j row av hi hj
      exact hx.lt _
    · exact h.young k o hk
section
variable {cx : Cx} {w : World} {tab : ATab} {L : Nat → Value}
end
def aRetA (P : Program) (rs : List ResultVar) (Post : Res → Prop) : Exit → ASt → Prop
  | .normal, st => aResL P st rs fun avs => (aOne avs).lt st.next ∧ Post ⟨aOne avs, st.tab, st.next⟩
  | .ret, st => aResL P st rs fun avs => (aOne avs).lt st.next ∧ Post ⟨aOne avs, st.tab, st.next⟩
  | _, _ => False
theorem arel_of_wpA {P : Program} {f : FuncId} {fn : Func} {c : Code} (hf : P.funcs[f]? = some fn) (hb : fn.body = some c) (hname : (fn.name == "runtime.NumGoroutine") = false) {args : List AV} {Post : Res → Prop} {n : Nat} (hnt : fn.ntmps = n) {rs : List ResultVar} (hrs : fn.results = rs.toArray) (hn : Nat.ble args.length n = true)
    (h : ∀ (cx : Cx) (a : Act) (w : World) (L : Nat → Value), Conc cx a w ⟨n, envOf 0 args, [], 0⟩ L → c.wp P (AfterC cx (aRetA P rs Post)) a w) : ARel P f args Post := by
  have hn := Nat.le_of_ble_eq_true hn
  subst hnt
  have hrs : fn.results.toList = rs := by rw [hrs]
  refine ⟨fun vs w => ?_, fun S w vs hS hvs hv => ?_⟩
  · have : ¬ fn.name = "runtime.NumGoroutine" := by simpa using hname
    simp [callFunc, Sem.run_bind, hf, this, hb]
  · let cx : Cx := (Cx.mk0 S w hS)
    refine (callsIn_wide (n := 0)).1 (callsIn_of_wp_marks hf hb trivial (wpIn_wide.2 ?_))
    have hL : Lay cx w [] (fun _ => undef) := ⟨belowX (Below.refl _ _), fun id o h => (by cases h), fun id id' o o' g h => (by cases h), fun b hb => hb.elim⟩
    have hC : Conc cx { tmps := vs ++ Array.replicate (fn.ntmps - vs.size) undef, defers := [] } w ⟨fn.ntmps, envOf 0 args, [], 0⟩ (fun _ => undef) := by
      refine ⟨hL, ?_, Marks.nil _ _ _, fun id o h => (by cases h), fun t => ?_⟩
      · simp
        omega
      have e : (⟨fn.ntmps, envOf 0 args, [], 0⟩ : ASt).get t = args.getD t .any := by
        show (if t < fn.ntmps then aget (envOf 0 args) t else .any) = _
        rw [aget_envOf]
        split
        · simp
        · simp [List.getD, List.getElem?_eq_none (show args.length ≤ t by omega)]
      rw [e]
      by_cases ht : t < args.length
      · have ht' : t < vs.size := by omega
        have e2 : (vs ++ Array.replicate (fn.ntmps - vs.size) undef).getD t undef = vs[t] := by
          rw [Array.getD_eq_getD_getElem?, Array.getElem?_append_left ht', Array.getElem?_eq_getElem ht']
          rfl
        have e3 : args.getD t .any = args[t] := by simp [List.getD, ht]
        rw [e2, e3]
        have := hv t _ _ (Array.getElem?_eq_getElem ht') (List.getElem?_eq_getElem ht)
        exact ⟨.tree (this.mono (fun _ _ => rfl) fun b hb => ⟨hS b hb, ⟨.inl hb, fun h => h⟩, fun id o h => by cases h⟩), this.lt 0⟩
      · have e3 : args.getD t .any = .any := by simp [List.getD, List.getElem?_eq_none (Nat.le_of_not_lt ht)]
        rw [e3]
        exact ⟨.tree (.any _), trivial⟩
    refine Code.wp_mono (fun e a w' ⟨st, L, h1, h2⟩ => ?_) (h cx _ w _ hC)
    rw [← hrs] at h1
    have key : (aResL P st fn.results.toList fun avs => (aOne avs).lt st.next ∧ Post ⟨aOne avs, st.tab, st.next⟩) → LeavesInM Fence.wide 0 P fn a.tmps (fun e w' => ∃ v' L R, Post R ∧ R.Ok ∧ e = .returned v' ∧ Lay cx w' R.tab L ∧ RVx cx w' R.tab L v' R.r) a.defers .returning w' := fun h1 => by
      refine leaves_marks _ _ h2.defers fun w2 hk2 => ?_
      have h2 := conc_keepM h2 hk2
      clear hk2
      generalize w2 = w' at h2
      obtain ⟨v, av, ⟨hlt, hPost⟩, h4, h5⟩ := res_ok (K := fun av => av.lt st.next ∧ Post ⟨av, st.tab, st.next⟩) h2 h1
      exact ⟨v, h5, v, L, ⟨av, st.tab, st.next⟩, hPost, ⟨h2.young, hlt⟩, rfl, h2.lay, h4⟩
    cases e with
    | normal => exact key h1
    | ret => exact key h1
    | _ => exact h1.elim
def aRetB (P : Program) (rs : List ResultVar) (Post : Res → Prop) (e : Exit) (st : ASt) : Prop := aTo (aRetA P rs Post e) st
theorem arel_of_whole {P : Program} (hm : P.follows .mixedOrders = true) {f : FuncId} {fn : Func} {c : Code} (hf : P.funcs[f]? = some fn) (hb : fn.body = some c) (hname : (fn.name == "runtime.NumGoroutine") = false) {args : List AV} {Post : Res → Prop} {n : Nat} (hnt : fn.ntmps = n) {rs : List ResultVar} (hrs : fn.results = rs.toArray) (hn : Nat.ble args.length n = true)
    (h : aCode P c (aRetB P rs Post) ⟨n, envOf 0 args, [], 0⟩) : ARel P f args Post :=
  arel_of_wpA hf hb hname hnt hrs hn fun cx a w L hc => Code.wp_mono (fun e a w ⟨st, L, ⟨st', hw, h1⟩, h2⟩ => (hw _ _ _ _ h2).elim fun L' h3 => ⟨st', L', h1, h3.1⟩) (code_ok hm c _ a w _ L hc h)
theorem weak_refl (st : ASt) : Weak st st := fun cx a w L h => ⟨L, h, fun b hb => hb⟩
/-- a list whose cells name nothing, once more as one that is plain -/
theorem weak_row {st : ASt} (id : Nat) {e : TypeId} {sz : Nat} {rows : List (List AV)} (hid : st.tab.get id = some (.nest e sz rows)) (ht : ∀ row ∈ rows, treeL row) : Weak st ⟨st.n, st.env, (id, some (.row e sz rows)) :: st.tab, st.next⟩ := by
  intro cx a w L h
  have hget : ∀ k o, ATab.get ((id, some (.row e sz rows)) :: st.tab) k = some o → ∃ o', st.tab.get k = some o' ∧ o.sz = o'.sz := fun k o hk => by
    rw [ATab.get_cons] at hk
    split at hk
    · rename_i e1
      cases hk
      exact ⟨.nest e sz rows, by rw [e1]; exact hid, rfl⟩
    · exact ⟨o, hk, rfl⟩
  have hext : Ext cx w st.tab L st.next w ((id, some (.row e sz rows)) :: st.tab) L := ⟨fun _ _ => rfl, fun b hb => ⟨hb.1, hb.2.1, fun k o hk => by
    obtain ⟨o', h1, _⟩ := hget k o hk
    exact hb.2.2 k o' h1⟩, fun k p _ hk => by
    unfold Kx at *
    cases ho : ATab.get ((id, some (.row e sz rows)) :: st.tab) k with
    | none => simp [ho] at hk
    | some o =>
      obtain ⟨o', h1, h2⟩ := hget k o ho
      rw [h1]
      simpa [ho, h2] using hk⟩
  have hob := h.lay.objs id _ hid
  refine ⟨L, ⟨⟨h.lay.below, fun k o hk => ?_, fun k k' o o' g h1 h2 => ?_, fun b hb => ⟨(h.lay.ex b hb).1, fun k o hk => by
    obtain ⟨o', h1, _⟩ := hget k o hk
    exact (h.lay.ex b hb).2 k o' h1⟩⟩, h.size, h.defers.mono (fun _ _ => rfl) hext.sub, fun k o hk => ?_, fun t => ⟨hext.rv (h.env t).1 (h.env t).2, (h.env t).2⟩⟩, hext.sub⟩
  · rw [ATab.get_cons] at hk
    split at hk
    · rename_i e1
      cases hk
      rw [e1]
      obtain ⟨h1, xs, h2, h3, h4⟩ := hob
      exact ⟨h1, xs, h2, h3, fun i j row av h5 h6 => (h4 i j row av h5 h6).elim fun x hx => ⟨x, hx.1, hext.rt (tree_of hx.2 (treeL_iff.1 (ht row (List.mem_of_getElem? h5)) av (List.mem_of_getElem? h6)))⟩⟩
    · exact hext.obj (h.lay.objs k o hk) (h.young k o hk).2 fun _ _ => rfl
  · obtain ⟨o1, h3, _⟩ := hget k o h1
    obtain ⟨o2, h4, _⟩ := hget k' o' h2
    exact h.lay.sep k k' o1 o2 g h3 h4
  · rw [ATab.get_cons] at hk
    split at hk
    · rename_i e1
      cases hk
      exact ⟨by rw [e1]; exact (h.young id _ hid).1, trivial⟩
    · exact h.young k o hk
/-- a list of its own whose cells name nothing is written no more -/
theorem weak_frzN {st : ASt} (id : Nat) {e : TypeId} {sz : Nat} {rows : List (List AV)} (hid : st.tab.get id = some (.nest e sz rows)) (ht : ∀ row ∈ rows, treeL row) :
    Weak st ⟨st.n, frzEnv id sz rows st.env, (id, none) :: frzTab id sz rows ((id, some (.row e sz rows)) :: st.tab), st.next⟩ := by
  have h2 := weak_frz ⟨st.n, st.env, (id, some (.row e sz rows)) :: st.tab, st.next⟩ id
  have e1 : frz1 ⟨st.n, st.env, (id, some (.row e sz rows)) :: st.tab, st.next⟩ id = ⟨st.n, frzEnv id sz rows st.env, (id, none) :: frzTab id sz rows ((id, some (.row e sz rows)) :: st.tab), st.next⟩ := by
    unfold frz1
    simp only [ATab.get_cons, ↓reduceIte]
  rw [e1] at h2
  exact (weak_row id hid ht).trans h2
theorem frzN_get {id sz : Nat} {e : TypeId} {rows : List (List AV)} {T : ATab} (k : Nat) : ATab.get ((id, none) :: frzTab id sz rows ((id, some (.row e sz rows)) :: T)) k = if k = id then none else (T.get k).map (AObj.frz id sz rows) := by
  rw [ATab.get_cons]
  split
  · rfl
  · rename_i h
    rw [frzTab_get, ATab.get_cons, if_neg h]
end
section
open Go.RowKit

abbrev eNs (l : List Int) : List (List AV) := l.map fun n => [eI n]
def mvRows (ids : Nat → Nat) (l : List Mv) : List (List AV) := l.mapIdx fun i v => [eI v.event, eI v.user, .osl (ids i)]
theorem mvRows_len (ids : Nat → Nat) (l : List Mv) : (mvRows ids l).length = l.length := by simp [mvRows]
theorem mvRows_at {ids : Nat → Nat} {l : List Mv} {i : Nat} (h : i < l.length) : (mvRows ids l)[i]?.getD [] = [eI l[i].event, eI l[i].user, .osl (ids i)] := by simp [mvRows, h]
def addI (ids : Nat → Nat) (m x : Nat) (i : Nat) : Nat := if i = m then x else ids i
theorem mvRows_snoc (ids : Nat → Nat) (l : List Mv) (v : Mv) (x : Nat) : mvRows ids l ++ [[eI v.event, eI v.user, .osl x]] = mvRows (addI ids l.length x) (l ++ [v]) := by
  apply List.ext_getElem?
  intro j
  unfold mvRows
  rw [List.getElem?_mapIdx]
  by_cases h : j < l.length
  · rw [List.getElem?_append_left (by simpa using h), List.getElem?_append_left h, List.getElem?_mapIdx]
    simp [addI, Nat.ne_of_lt h, h]
  · rw [List.getElem?_append_right (by simpa using h), List.getElem?_append_right (by omega)]
    by_cases e : j = l.length
    · subst e
      simp [addI]
    · obtain ⟨d, hd⟩ : ∃ d, j - l.length = d + 1 := ⟨j - l.length - 1, by omega⟩
      have hd2 : j - (List.mapIdx (fun i (v : Mv) => [eI v.event, eI v.user, AV.osl (ids i)]) l).length = d + 1 := by rw [List.length_mapIdx]; exact hd
      rw [hd, hd2]
      rfl
/-- moves whose numbers are the call's own -/
structure MvsOK (T : ATab) (o : Nat) (ids : Nat → Nat) (l : List Mv) (nx : Nat) : Prop where
  out : T.get o = some (.nest 43 3 (mvRows ids l))
  inn : ∀ i (h : i < l.length), T.get (ids i) = some (.nest 2 1 (eNs l[i].vals))
  inj : ∀ i j, i < l.length → j < l.length → ids i = ids j → i = j
  ne : ∀ i, i < l.length → ids i ≠ o
  lt : ∀ i, i < l.length → ids i < nx
  lo : o < nx
theorem mvs_snoc {T : ATab} {ids : Nat → Nat} {l : List Mv} {v : Mv} {x o nx : Nat} (h1 : T.get o = some (.nest 43 3 (mvRows ids l ++ [[eI v.event, eI v.user, .osl x]]))) (h2 : ∀ i (h : i < l.length), T.get (ids i) = some (.nest 2 1 (eNs l[i].vals))) (h3 : T.get x = some (.nest 2 1 (eNs v.vals)))
    (hlt : ∀ i, i < l.length → ids i < x) (hinj : ∀ i j, i < l.length → j < l.length → ids i = ids j → i = j) (hx : x < o) (ho : o < nx) : MvsOK T o (addI ids l.length x) (l ++ [v]) nx := by
  have ha : ∀ i, i < l.length → addI ids l.length x i = ids i := fun i hi => if_neg (by omega)
  have hm : addI ids l.length x l.length = x := if_pos rfl
  have hl : ∀ i, i < l.length + 1 → addI ids l.length x i ≤ x := fun i hi => by
    by_cases e : i = l.length
    · rw [e, hm]
      exact Nat.le_refl _
    · rw [ha i (by omega)]
      exact Nat.le_of_lt (hlt i (by omega))
  refine ⟨by rw [h1, mvRows_snoc], fun i hi => ?_, fun i j hi hj h => ?_, fun i hi h => ?_, fun i hi => ?_, ho⟩
  · rw [List.length_append, List.length_singleton] at hi
    by_cases e : i = l.length
    · subst e
      rw [hm, h3]
      simp
    · rw [ha i (by omega), h2 i (by omega), List.getElem_append_left (by omega)]
  · rw [List.length_append, List.length_singleton] at hi hj
    by_cases e : i = l.length <;> by_cases e2 : j = l.length
    · omega
    · rw [e, hm, ha j (by omega)] at h
      have := hlt j (by omega)
      omega
    · rw [e2, hm, ha i (by omega)] at h
      have := hlt i (by omega)
      omega
    · rw [ha i (by omega), ha j (by omega)] at h
      exact hinj i j (by omega) (by omega) h
  · rw [List.length_append, List.length_singleton] at hi
    have := hl i hi
    omega
  · rw [List.length_append, List.length_singleton] at hi
    have := hl i hi
    omega
theorem mvsM_len (m : Mod) (s : St) : ∀ e, (mvsM m s e).length ≤ m.users.length * e
  | 0 => by simp [mvsM]
  | e + 1 => by
    have h1 := mvsM_len m s e
    have h2 := filtN_len (fun u => enabledM m s (e : Int) (u : Int)) m.users.length
    rw [mvsM, List.length_append, Nat.mul_add]
    simp only [mvsE, whoM, List.length_map]
    omega
/-- the moves so far -/
def Mv1 (T : ATab) (nx : Nat) (l : List Mv) (av : AV) : Prop := (l = [] ∧ av = .c (.slice none 0 0)) ∨ ∃ o ids, l ≠ [] ∧ av = .osl o ∧ MvsOK T o ids l nx
theorem Mv1.keep {T T' : ATab} {nx nx' : Nat} {l : List Mv} {av : AV} (h : Mv1 T nx l av) (ht : ∀ id, id < nx → T'.get id = T.get id) (hn : nx ≤ nx') : Mv1 T' nx' l av := by
  rcases h with h | ⟨o, ids, h1, h2, h3⟩
  · exact .inl h
  · exact .inr ⟨o, ids, h1, h2, by rw [ht o h3.lo]; exact h3.out, fun i hi => by rw [ht _ (h3.lt i hi)]; exact h3.inn i hi, h3.inj, h3.ne, fun i hi => Nat.lt_of_lt_of_le (h3.lt i hi) hn, Nat.lt_of_lt_of_le h3.lo hn⟩
def MovesPost (m : Mod) (s : St) (R : Res) : Prop :=
  (mvsM m s m.events.length = [] ∧ R = own 43 3 [[eI (-1), eI (-1), .c (.slice none 0 0)]]) ∨ ∃ T nx o ids, mvsM m s m.events.length ≠ [] ∧ MvsOK T o ids (mvsM m s m.events.length) nx ∧ R = ⟨.osl o, T, nx⟩
set_option maxRecDepth 100000 in
set_option maxHeartbeats 8000000 in
theorem moves_A (m : Mod) (s : St) (hf : Fit m) (hc : chkS m s = true) : ARel Try.prog 9 [.agg (eMod m), .agg (eSt s)] (MovesPost m s) := by
  refine arel_of_whole mixedT Try.func9 rfl (by decide) Try.ntmps9 Try.results9 rfl ?_
  obtain ⟨hgl, hml, hsl, hel, hal, hul, hrl, hsol, hol, hil⟩ := id hf.sizes
  have hC := checkS_A m s (by omega)
  rw [hc] at hC
  (repeat' (first | simp (maxSteps := 5000000) (implicitDefEqProofs := false) only [ruA, ruB, aEv, aTake, aLoad, ASt.get, aget, ASt.put, aBox, aCells, oneC, oneCL, Value.oneCell', envOf, ↓reduceIte, reduceCtorEq, Nat.reduceLT, Nat.reduceEqDiff, Nat.reduceAdd, eq_self, tyA_32, tyS_32, tyA_35, tyS_35] | (with_reducible refine aIf_split (fun _ => ?_) (fun _ => ?_)) | (with_reducible refine aSel_split (fun _ => ?_) (fun _ => ?_)) | (with_reducible refine aGd_split (fun _ => ?_) (fun _ => ?_))))
  refine callV hC ?_
  (repeat' (first | simp (maxSteps := 5000000) (implicitDefEqProofs := false) only [ruA, ruB, aEv, aTake, aLoad, aField, aLen, aUn, un1, ASt.get, aget, ASt.put, ↓reduceIte, reduceCtorEq, Nat.reduceLT, Nat.reduceEqDiff, Nat.reduceAdd, Nat.reduceLeDiff, eq_self, ne_eq, aLenM, false_or, tyF_32_5, tyA_26, tyS_26, tyE_26] | (with_reducible refine aIf_split (fun _ => ?_) (fun _ => ?_)) | (with_reducible refine aSel_split (fun _ => ?_) (fun _ => ?_)) | (with_reducible refine aGd_split (fun _ => ?_) (fun _ => ?_))))
  have hnil : mvsM m s 0 = [] := rfl
  refine aLoop_of (fun st => ∃ (e nx : Nat) (T : ATab) (av : AV), e ≤ m.events.length ∧ Mv1 T nx (mvsM m s e) av ∧ (T.get 0 = some (.box 32 (eMod m)) ∧ T.get 1 = some (.box 35 (eSt s)) ∧ 1 < nx) ∧ st = ⟨50, [(2, .op 0 0 0), (3, .op 1 0 0), (5, av), (16, .sl 5 (m.events.map eEv)), (17, eI (m.events.length : Int)), (18, eI (e : Int))], T, nx⟩) (fun st => m.events.length - slotN st 18) ⟨_, (weak_env (by (first | ((simp only [envIn, ruW, ASt.get, aget, ↓reduceIte, Nat.reduceLT, Nat.reduceEqDiff, eq_self]) <;> (repeat' apply And.intro) <;> first | (rw [wrapK (by omega)]; done) | (simp; done) | omega) | fail))), 0, 2, [(1, some (.box 35 (eSt s))), (0, some (.box 32 (eMod m)))], .c (.slice none 0 0), Nat.zero_le _, .inl ⟨rfl, rfl⟩, ⟨rfl, rfl, by omega⟩, rfl⟩ ?_
  rintro _ ⟨e, nx, T, av, he, hM, ⟨hT0, hT1, hnx⟩, rfl⟩
  have g0 : (0 = nx) = False := by simp; omega
  have g1 : (1 = nx) = False := by simp; omega
  by_cases hlt : e < m.events.length
  · obtain ⟨x, hx⟩ : ∃ x, m.events[e] = x := ⟨_, rfl⟩
    have rE : (m.events.map eEv)[e]?.getD [] = eEv x := by simp [hlt, hx]
    have hW := who_A m s (e : Int) (by omega) (by omega) (by omega)
    have hwl : (whoM m s (e : Int)).length ≤ 10 := by
      have := filtN_len (fun u => enabledM m s (e : Int) (u : Int)) m.users.length
      unfold whoM
      omega
    (repeat' (first | simp (maxSteps := 5000000) (implicitDefEqProofs := false) only [ruA, ruB, aEv, aTake, aLoad, aIndex, aBin, bin2, ASt.get, aget, ASt.put, aStore, aBox, aCells, oneC, oneCL, Value.cells, Value.oneCell', ↓reduceIte, Nat.reduceLT, Nat.reduceEqDiff, Nat.reduceAdd, eq_self, tyA_32, tyS_32, tyA_35, tyS_35, tyE_26, tyA_56, tyS_56, tyZ_56, hlt, rE, hT0, hT1, g0, g1] | (with_reducible refine aIf_split (fun _ => ?_) (fun _ => ?_)) | (with_reducible refine aSel_split (fun _ => ?_) (fun _ => ?_)) | (with_reducible refine aGd_split (fun _ => ?_) (fun _ => ?_))))
    refine callO hW (.inr (by intro row hr av ha; simp at hr; (try obtain ⟨_, _, rfl⟩ := hr); simp at ha; subst_vars; simp [AV.plain])) ?_
    obtain ⟨who, hwho⟩ : ∃ who, who = whoM m s (e : Int) := ⟨_, rfl⟩
    have hE : ∀ k (hk : k < who.length), (mvsE m s e).take (k + 1) = (mvsE m s e).take k ++ [⟨(e : Int), who[k], List.replicate x.sets.length 0⟩] := fun k hk => by
      subst hwho
      have hk2 : k < (mvsE m s e).length := by simpa [mvsE] using hk
      rw [List.take_succ_eq_append_getElem hk2]
      simp [mvsE, hlt, hx]
    have hEl : (mvsE m s e).length = who.length := by rw [hwho]; simp [mvsE]
    rw [← hwho] at hwl ⊢
    clear hW
    (repeat' (first | simp (maxSteps := 5000000) (implicitDefEqProofs := false) only [ruA, ruB, aEv, aLen, ASt.get, aget, ASt.put, ↓reduceIte, Nat.reduceLT, eq_self, ne_eq, aLenM, false_or, tyE_33] | (with_reducible refine aIf_split (fun _ => ?_) (fun _ => ?_)) | (with_reducible refine aSel_split (fun _ => ?_) (fun _ => ?_)) | (with_reducible refine aGd_split (fun _ => ?_) (fun _ => ?_))))
    refine aLoop_of (fun st => ∃ (k nx2 : Nat) (T2 : ATab) (av2 : AV), k ≤ who.length ∧ Mv1 T2 nx2 (mvsM m s e ++ (mvsE m s e).take k) av2 ∧ (T2.get 0 = some (.box 32 (eMod m)) ∧ T2.get 1 = some (.box 35 (eSt s)) ∧ T2.get nx = some (.box 56 (eEv x)) ∧ T2.get (nx + 1) = some (.row 3 1 (who.map fun n => [eI n])) ∧ nx + 1 < nx2) ∧ st = ⟨50, [(2, .op 0 0 0), (3, .op 1 0 0), (5, av2), (6, eI (e : Int)), (7, .op nx 0 0), (16, .sl 5 (m.events.map eEv)), (17, eI (m.events.length : Int)), (18, eI (e : Int)), (26, .osl (nx + 1)), (27, eI (who.length : Int)), (28, eI (k : Int))], T2, nx2⟩) (fun st => who.length - slotN st 28) ⟨_, (weak_env (by (first | ((simp only [envIn, ruW, ASt.get, aget, ↓reduceIte, Nat.reduceLT, Nat.reduceEqDiff, eq_self]) <;> (repeat' apply And.intro) <;> first | (rw [wrapK (by omega)]; done) | (simp; done) | omega) | fail))), 0, nx + 1 + 1, _, av, Nat.zero_le _, ?_, ?_, rfl⟩ ?_
    · rw [List.take_zero, List.append_nil]
      refine hM.keep (fun id hid => ?_) (by omega)
      simp only [ATab.get_cons]
      repeat rw [if_neg (by omega)]
    · refine ⟨?_, ?_, ?_, ?_, by omega⟩
      · simp only [ATab.get_cons]
        repeat rw [if_neg (by omega)]
        exact hT0
      · simp only [ATab.get_cons]
        repeat rw [if_neg (by omega)]
        exact hT1
      · simp only [ATab.get_cons, ↓reduceIte]
        rw [if_neg (by omega)]
      · simp only [ATab.get_cons, ↓reduceIte]
    clear hM hT0 hT1
    rintro _ ⟨k, nx2, T2, av2, hk, hM, ⟨hT0, hT1, hTx, hTw, hn2⟩, rfl⟩
    by_cases hkl : k < who.length
    · have rW : (who.map fun n => [eI n])[k]?.getD [] = [eI who[k]] := by simp [hkl]
      have hsz : x.sets.length ≤ 10 := by
        rw [← hx]
        exact hf.events _ (List.getElem_mem hlt)
      have i0 : (0 : Int) ≤ (x.sets.length : Int) := by omega
      have i1 : (x.sets.length : Int) ≤ 16777216 := by omega
      have hz : List.replicate x.sets.length [eI 0] = eNs (List.replicate x.sets.length 0) := by simp
      have q1 : (nx2 = nx2 + 1) = False := by simp
      have q2 : (nx2 = nx2 + 1 + 1) = False := by simp; omega
      have q3 : (nx = nx2) = False := by simp; omega
      have q4 : (nx = nx2 + 1) = False := by simp; omega
      have q5 : (nx + 1 = nx2) = False := by simp; omega
      rcases hM with ⟨hl0, rfl⟩ | ⟨o, ids, hl0, rfl, hN⟩
      · (repeat' (first | simp (maxSteps := 5000000) (implicitDefEqProofs := false) only [ruA, ruB, aEv, aTake, aLoad, aField, aIndex, aLen, aBin, bin2, ASt.get, aget, ASt.put, aAppend, aBuildSlice, aMake, aBuild, aFill, oneParts, aCells, oneC, oneCL, aDst, aSrc, appTab, Value.cells, Value.oneCell', ↓reduceIte, reduceCtorEq, Nat.reduceLT, Nat.reduceEqDiff, Nat.reduceAdd, Nat.reduceMul, Nat.reduceLeDiff, eq_self, ne_eq, aBuildSlice1, mkO, aDstN, aSrcN, aLitN, frzs, frz1, ownIds, aLenM, false_or, tyE_33, tyA_3, tyS_3, tyF_56_3, tyA_33, tyS_33, tyR_23, tyZ_2, tyQ_23, tyB_43, tyR_40, hkl, rW, hTx, hTw, i0, i1, hz] | (with_reducible refine aIf_split (fun _ => ?_) (fun _ => ?_)) | (with_reducible refine aSel_split (fun _ => ?_) (fun _ => ?_)) | (with_reducible refine aGd_split (fun _ => ?_) (fun _ => ?_))))
        refine ⟨by omega, rfl, roundI (weak_env (by (first | ((simp only [envIn, ruW, ASt.get, aget, ↓reduceIte, Nat.reduceLT, Nat.reduceEqDiff, eq_self]) <;> (repeat' apply And.intro) <;> first | (rw [wrapK (by omega)]; done) | (simp; done) | omega) | fail))) ⟨k + 1, _, _, _, by omega, .inr ⟨nx2 + 1 + 1, addI (fun _ => 0) 0 nx2, by rw [hE k hkl]; simp, rfl, ?_⟩, ⟨?_, ?_, ?_, ?_, Nat.lt_succ_of_lt (Nat.lt_succ_of_lt (Nat.lt_succ_of_lt hn2))⟩, rfl⟩ (by simp only [slotN, ruW, ASt.get, aget, ↓reduceIte, Nat.reduceLT, Nat.reduceEqDiff, eq_self]; omega)⟩
        · rw [hE k hkl, ← List.append_assoc, hl0]
          refine mvs_snoc (l := []) (v := ⟨(e : Int), who[k], List.replicate x.sets.length 0⟩) (x := nx2) ?_ (fun i hi => by cases hi) ?_ (fun i hi => by cases hi) (fun i j hi => by cases hi) (by omega) (Nat.lt_succ_self _)
          · simp only [ATab.get_cons, ↓reduceIte]
            rfl
          · simp only [ATab.get_cons, ↓reduceIte]
            repeat rw [if_neg (by omega)]
        all_goals
          simp only [ATab.get_cons]
          repeat rw [if_neg (by omega)]
          assumption
      · have q6 : (o = nx2) = False := by have := hN.lo; simp; omega
        have q7 : (o = nx2 + 1) = False := by have := hN.lo; simp; omega
        have hO := hN.out
        have hlb : (mvsM m s e ++ (mvsE m s e).take k).length ≤ 1000 := by
          have h1 := mvsM_len m s e
          have h2 : m.users.length * e ≤ 10 * 10 := Nat.mul_le_mul (by omega) (by omega)
          have h3 := List.length_take_le k (mvsE m s e)
          rw [List.length_append]
          omega
        have o0 : 0 ≠ o := fun e => by
          rw [e, hO] at hT0
          cases hT0
        have o1 : 1 ≠ o := fun e => by
          rw [e, hO] at hT1
          cases hT1
        have o2 : nx ≠ o := fun e => by
          rw [e, hO] at hTx
          cases hTx
        have o3 : nx + 1 ≠ o := fun e => by
          rw [e, hO] at hTw
          cases hTw
        (repeat' (first | simp (maxSteps := 5000000) (implicitDefEqProofs := false) only [ruA, ruB, aEv, aTake, aLoad, aField, aIndex, aLen, aBin, bin2, ASt.get, aget, ASt.put, aAppend, aBuildSlice, aMake, aBuild, aFill, oneParts, aCells, oneC, oneCL, aDst, aSrc, appTab, Value.cells, Value.oneCell', ↓reduceIte, reduceCtorEq, Nat.reduceLT, Nat.reduceEqDiff, Nat.reduceAdd, Nat.reduceMul, Nat.reduceLeDiff, eq_self, ne_eq, aBuildSlice1, mkO, aDstN, aSrcN, aLitN, frzs, frz1, ownIds, aLenM, false_or, tyE_33, tyA_3, tyS_3, tyF_56_3, tyA_33, tyS_33, tyR_23, tyZ_2, tyQ_23, tyB_43, tyR_40, hkl, rW, hTx, hTw, i0, i1, hz, q6, q7, hO, mvRows_len] | (with_reducible refine aIf_split (fun _ => ?_) (fun _ => ?_)) | (with_reducible refine aSel_split (fun _ => ?_) (fun _ => ?_)) | (with_reducible refine aGd_split (fun _ => ?_) (fun _ => ?_))))
        refine ⟨by omega, rfl, ⟨by omega, by omega⟩, roundI (weak_env (by (first | ((simp only [envIn, ruW, ASt.get, aget, ↓reduceIte, Nat.reduceLT, Nat.reduceEqDiff, eq_self]) <;> (repeat' apply And.intro) <;> first | (rw [wrapK (by omega)]; done) | (simp; done) | omega) | fail))) ⟨k + 1, _, _, _, by omega, .inr ⟨nx2 + 1 + 1, addI ids (mvsM m s e ++ (mvsE m s e).take k).length nx2, by rw [hE k hkl]; simp, rfl, ?_⟩, ⟨?_, ?_, ?_, ?_, Nat.lt_succ_of_lt (Nat.lt_succ_of_lt (Nat.lt_succ_of_lt hn2))⟩, rfl⟩ (by simp only [slotN, ruW, ASt.get, aget, ↓reduceIte, Nat.reduceLT, Nat.reduceEqDiff, eq_self]; omega)⟩
        · rw [hE k hkl, ← List.append_assoc]
          refine mvs_snoc (v := ⟨(e : Int), who[k], List.replicate x.sets.length 0⟩) (x := nx2) ?_ (fun i hi => ?_) ?_ hN.lt hN.inj (by omega) (Nat.lt_succ_self _)
          · simp only [ATab.get_cons, ↓reduceIte]
          · have h1 := hN.lt i hi
            have h2 := hN.ne i hi
            simp only [ATab.get_cons]
            rw [if_neg (by omega), if_neg h2, if_neg (by omega), if_neg (by omega)]
            exact hN.inn i hi
          · simp only [ATab.get_cons, ↓reduceIte]
            have h2 := hN.lo
            repeat rw [if_neg (by omega)]
        all_goals
          simp only [ATab.get_cons]
          rw [if_neg (by omega), if_neg (by assumption), if_neg (by omega), if_neg (by omega)]
          assumption
    obtain rfl : k = who.length := by omega
    rw [List.take_of_length_le (Nat.le_of_eq hEl)] at hM
    (repeat' (first | simp (maxSteps := 5000000) (implicitDefEqProofs := false) only [ruA, ruB, aEv, aBin, bin2, ASt.get, aget, ASt.put, ↓reduceIte, Nat.reduceLT, Nat.reduceEqDiff, eq_self, hkl] | (with_reducible refine aIf_split (fun _ => ?_) (fun _ => ?_)) | (with_reducible refine aSel_split (fun _ => ?_) (fun _ => ?_)) | (with_reducible refine aGd_split (fun _ => ?_) (fun _ => ?_))))
    exact roundI (weak_env (by (first | ((simp only [envIn, ruW, ASt.get, aget, ↓reduceIte, Nat.reduceLT, Nat.reduceEqDiff, eq_self]) <;> (repeat' apply And.intro) <;> first | (rw [wrapK (by omega)]; done) | (simp; done) | omega) | fail))) ⟨e + 1, nx2, T2, av2, by omega, hM, ⟨hT0, hT1, by omega⟩, rfl⟩ (by simp only [slotN, ruW, ASt.get, aget, ↓reduceIte, Nat.reduceLT, Nat.reduceEqDiff, eq_self]; omega)
  obtain rfl : e = m.events.length := by omega
  rcases hM with ⟨hl0, rfl⟩ | ⟨o, ids, hl0, rfl, hN⟩
  · have z1 : (((0 : Nat) : Int) == 0) = true := rfl
    (repeat' (first | simp (maxSteps := 5000000) (implicitDefEqProofs := false) only [ruA, ruB, aEv, aLen, aBin, bin2, ASt.get, aget, ASt.put, ↓reduceIte, Nat.reduceLT, Nat.reduceEqDiff, eq_self, ne_eq, aLenM, false_or, tyE_40, hlt, z1] | (with_reducible refine aIf_split (fun _ => ?_) (fun _ => ?_)) | (with_reducible refine aSel_split (fun _ => ?_) (fun _ => ?_)) | (with_reducible refine aGd_split (fun _ => ?_) (fun _ => ?_))))
    refine callT idleMv_A (.inl (by simp [roL])) ?_
    (repeat' (first | simp (maxSteps := 5000000) (implicitDefEqProofs := false) only [ruA, ruB, aEv, ASt.get, aget, ASt.put, aBuildSlice, aCells, oneC, oneCL, treeML, treeM_c, aLit, Value.cells, Value.oneCell', ↓reduceIte, Nat.reduceLT, Nat.reduceAdd, Nat.reduceMul, Nat.reduceLeDiff, eq_self, aBuildSlice1, frzs, ownIds, AV.shift, AV.shiftL, tyR_40] | (with_reducible refine aIf_split (fun _ => ?_) (fun _ => ?_)) | (with_reducible refine aSel_split (fun _ => ?_) (fun _ => ?_)) | (with_reducible refine aGd_split (fun _ => ?_) (fun _ => ?_))))
    refine ⟨rfl, ⟨50, [(4, .osl 0)], [(0, some (.row 43 3 [[eI (-1), eI (-1), .c (.slice none 0 0)]]))], 1⟩, weak_ren [nx] (by simp) rfl (by simp [envInR, ASt.get, aget, AV.ren]) (by simp [tabInR, ATab.get_cons, AObj.ren]) (by simp [envLt, AV.lt]) (by simp [tabLt, AObj.lt]), ⟨Nat.zero_lt_one, .inl ⟨hl0, rfl⟩⟩⟩
  · have hpos := List.length_pos_iff.2 hl0
    have z1 : (((mvsM m s m.events.length).length : Int) == 0) = false := by simp; omega
    have hO := hN.out
    (repeat' (first | simp (maxSteps := 5000000) (implicitDefEqProofs := false) only [ruA, ruB, aEv, aLen, aBin, bin2, ASt.get, aget, ASt.put, ↓reduceIte, Nat.reduceLT, Nat.reduceEqDiff, eq_self, ne_eq, aLenM, false_or, tyE_40, hlt, hO, mvRows_len, z1] | (with_reducible refine aIf_split (fun _ => ?_) (fun _ => ?_)) | (with_reducible refine aSel_split (fun _ => ?_) (fun _ => ?_)) | (with_reducible refine aGd_split (fun _ => ?_) (fun _ => ?_))))
    exact ⟨_, weak_refl _, ⟨hN.lo, .inr ⟨T, nx, o, ids, hl0, hN, rfl⟩⟩⟩
end
section
open Go.RowKit
set_option maxRecDepth 100000 in
theorem within14_A (a b : Int) (ha : ok64 a) (hb : ok64 b) (h : ∀ i : Int, hasB a i = true → hasB b i = true) : ADet Try.prog 12 [eI a, eI b] (val (.bool true)) := by
  refine adet_of_code mixedT Try.func12 rfl (by decide) Try.ntmps12 Try.results12 rfl (val_ok _) ?_
  (repeat' (first | simp (maxSteps := 5000000) (implicitDefEqProofs := false) only [ruA, ruB, aEv, ASt.put, envOf] | (with_reducible refine aIf_split (fun _ => ?_) (fun _ => ?_)) | (with_reducible refine aSel_split (fun _ => ?_) (fun _ => ?_)) | (with_reducible refine aGd_split (fun _ => ?_) (fun _ => ?_))))
  refine aLoop_of (fun st => ∃ k : Nat, k ≤ 31 ∧ st = ⟨19, [(0, eI a), (1, eI b), (5, eI (k : Int))], [], 0⟩) (fun st => 31 - slotN st 5) ⟨_, (weak_cut1 (by (first | ((simp only [envIn, tabIn, envLt, tabLt, AV.lt, ruW, ASt.get, aget, ↓reduceIte, reduceCtorEq, Nat.reduceLT, Nat.reduceEqDiff, eq_self]) <;> (repeat' apply And.intro) <;> first | (rw [wrapK (by omega)]; done) | (simp; done) | omega) | fail))), 0, Nat.zero_le _, rfl⟩ ?_
  rintro _ ⟨k, hk, rfl⟩
  by_cases hlt : k < 31
  · have d0 : decide ((k : Int) < 31) = true := decide_eq_true (by omega)
    have hA := hasR_A a (k : Int) ha
    have hB := hasR_A b (k : Int) hb
    cases hh : hasB a (k : Int) with
    | false =>
      rw [hh] at hA
      (repeat' (first | simp (maxSteps := 5000000) (implicitDefEqProofs := false) only [ruA, ruB, aEv, aBin, bin2, ASt.get, aget, ASt.put, ↓reduceIte, reduceCtorEq, Nat.reduceLT, Nat.reduceEqDiff, eq_self, d0] | (with_reducible refine aIf_split (fun _ => ?_) (fun _ => ?_)) | (with_reducible refine aSel_split (fun _ => ?_) (fun _ => ?_)) | (with_reducible refine aGd_split (fun _ => ?_) (fun _ => ?_)) | (with_reducible refine aDraw_quiet (by kernel_rfl) ?_) | ((with_reducible apply callV); exact (hA)) | ((with_reducible apply callD); exact (hA))))
      all_goals exact roundI (weak_cut1 (by (first | ((simp only [envIn, tabIn, envLt, tabLt, AV.lt, ruW, ASt.get, aget, ↓reduceIte, reduceCtorEq, Nat.reduceLT, Nat.reduceEqDiff, eq_self]) <;> (repeat' apply And.intro) <;> first | (rw [wrapK (by omega)]; done) | (simp; done) | omega) | fail))) ⟨k + 1, by omega, rfl⟩ (by simp only [slotN, ruW, ASt.get, aget, ↓reduceIte, Nat.reduceLT, Nat.reduceEqDiff, eq_self]; omega)
    | true =>
      rw [hh] at hA
      rw [h _ hh] at hB
      (repeat' (first | simp (maxSteps := 5000000) (implicitDefEqProofs := false) only [ruA, ruB, aEv, aBin, bin2, aUn, un1, ASt.get, aget, ASt.put, ↓reduceIte, reduceCtorEq, Nat.reduceLT, Nat.reduceEqDiff, eq_self, d0] | (with_reducible refine aIf_split (fun _ => ?_) (fun _ => ?_)) | (with_reducible refine aSel_split (fun _ => ?_) (fun _ => ?_)) | (with_reducible refine aGd_split (fun _ => ?_) (fun _ => ?_)) | (with_reducible refine aDraw_quiet (by kernel_rfl) ?_) | ((with_reducible apply callV); exact (hA)) | ((with_reducible apply callD); exact (hA)) | ((with_reducible apply callV); exact (hB)) | ((with_reducible apply callD); exact (hB))))
      all_goals exact roundI (weak_cut1 (by (first | ((simp only [envIn, tabIn, envLt, tabLt, AV.lt, ruW, ASt.get, aget, ↓reduceIte, reduceCtorEq, Nat.reduceLT, Nat.reduceEqDiff, eq_self]) <;> (repeat' apply And.intro) <;> first | (rw [wrapK (by omega)]; done) | (simp; done) | omega) | fail))) ⟨k + 1, by omega, rfl⟩ (by simp only [slotN, ruW, ASt.get, aget, ↓reduceIte, Nat.reduceLT, Nat.reduceEqDiff, eq_self]; omega)
  obtain rfl : k = 31 := by omega
  have d0 : decide (((31 : Nat) : Int) < 31) = false := by decide
  (repeat' (first | simp (maxSteps := 5000000) (implicitDefEqProofs := false) only [ruA, ruB, aEv, aBin, bin2, ASt.get, aget, ASt.put, aResL, aOne, ↓reduceIte, Nat.reduceLT, Nat.reduceEqDiff, eq_self, d0] | (with_reducible refine aIf_split (fun _ => ?_) (fun _ => ?_)) | (with_reducible refine aSel_split (fun _ => ?_) (fun _ => ?_)) | (with_reducible refine aGd_split (fun _ => ?_) (fun _ => ?_))))
/-- what lies beside the moves -/
structure BaseOK (m : Mod) (s : St) (T : ATab) : Prop where
  t0 : T.get 0 = some (.box 32 (eMod m))
  t1 : T.get 1 = some (.box 35 (eSt s))
  t2 : T.get 2 = some (.box 35 [.osl 3, eI s.opn, eI s.don, .osl 4, .osl 5])
  t3 : T.get 3 = some (.row 2 1 (eNs s.vals))
  t4 : T.get 4 = some (.row 3 1 (eNs s.did))
  t5 : T.get 5 = some (.row 3 1 (eNs s.cnt))
def base5 (m : Mod) (s : St) : ATab := [(0, some (.box 32 (eMod m))), (1, some (.box 35 (eSt s))), (2, some (.box 35 [.osl 3, eI s.opn, eI s.don, .osl 4, .osl 5])), (3, some (.row 2 1 (eNs s.vals))), (4, some (.row 3 1 (eNs s.did))), (5, some (.row 3 1 (eNs s.cnt)))]
/-- whichever order the copies were made in -/
theorem was_weak {st : ASt} {N : Nat} {m : Mod} {s : St} {vals : List Int} {a b c d : Nat} (h0 : st.n = N) (h3 : st.get 3 = .op 0 0 0) (h4 : st.get 4 = .op 1 0 0) (h7 : st.get 7 = .op a 0 0) (h2 : st.get 2 = sI vals)
    (t0 : st.tab.get 0 = some (.box 32 (eMod m))) (t1 : st.tab.get 1 = some (.box 35 (eSt s))) (ta : st.tab.get a = some (.box 35 [.osl b, eI s.opn, eI s.don, .osl c, .osl d]))
    (tb : st.tab.get b = some (.row 2 1 (eNs s.vals))) (tc : st.tab.get c = some (.row 3 1 (eNs s.did))) (td : st.tab.get d = some (.row 3 1 (eNs s.cnt))) (hnd : [0, 1, a, b, c, d].Nodup) :
    aTo (fun st' => st' = ⟨N, [(3, .op 0 0 0), (4, .op 1 0 0), (7, .op 2 0 0), (2, sI vals)], base5 m s, 6⟩) st :=
  aTo_mk (weak_ren [0, 1, a, b, c, d] hnd h0 (by simp [envInR, h3, h4, h7, h2, AV.ren]) (by simp [base5, tabInR, t0, t1, ta, tb, tc, td, AObj.ren, AV.renL, AV.ren]) (by simp [envLt, AV.lt]) (by simp [base5, tabLt, AObj.lt, AV.ltL, AV.lt])) rfl
theorem base_ok (m : Mod) (s : St) : BaseOK m s (base5 m s) := ⟨rfl, rfl, rfl, rfl, rfl, rfl⟩
theorem BaseOK.keep {m : Mod} {s : St} {T T' : ATab} (h : BaseOK m s T) (ht : ∀ id, id < 6 → T'.get id = T.get id) : BaseOK m s T' :=
  ⟨(ht 0 (by omega)).trans h.t0, (ht 1 (by omega)).trans h.t1, (ht 2 (by omega)).trans h.t2, (ht 3 (by omega)).trans h.t3, (ht 4 (by omega)).trans h.t4, (ht 5 (by omega)).trans h.t5⟩
theorem BaseOK.frz {m : Mod} {s : St} {T T' : ATab} {id sz : Nat} {rows : List (List AV)} (h : BaseOK m s T) (hid : 6 ≤ id) (ht : ∀ k, T'.get k = if k = id then none else (T.get k).map (AObj.frz id sz rows)) : BaseOK m s T' := by
  have e3 : ¬ 3 = id := by omega
  have e4 : ¬ 4 = id := by omega
  have e5 : ¬ 5 = id := by omega
  refine ⟨?_, ?_, ?_, ?_, ?_, ?_⟩
  · rw [ht, if_neg (by omega), h.t0]
    simp [AObj.frz, AV.frzL, AV.frz]
  · rw [ht, if_neg (by omega), h.t1]
    simp [AObj.frz, AV.frzL, AV.frz]
  · rw [ht, if_neg (by omega), h.t2]
    simp [AObj.frz, AV.frzL, AV.frz, e3, e4, e5]
  · rw [ht, if_neg (by omega), h.t3]
    simp [AObj.frz]
  · rw [ht, if_neg (by omega), h.t4]
    simp [AObj.frz]
  · rw [ht, if_neg (by omega), h.t5]
    simp [AObj.frz]
/-- moves from number i on, as they lie: their numbers are the call's own, or there are none -/
structure LawOK (m : Mod) (s : St) (T : ATab) (o : Nat) (X : Nat → AV) (l : List Mv) (i nx : Nat) : Prop where
  base : BaseOK m s T
  out : ∃ rows, T.get o = some (.nest 43 3 rows) ∧ rows.length = l.length ∧ ∀ j (h : j < l.length), i ≤ j → rows[j]?.getD [] = [eI l[j].event, eI l[j].user, X j]
  inn : ∀ j (h : j < l.length), i ≤ j → (X j = .c (.slice none 0 0) ∧ l[j].vals = []) ∨ ∃ id, X j = .osl id ∧ 6 ≤ id ∧ id ≠ o ∧ id < nx ∧ T.get id = some (.nest 2 1 (eNs l[j].vals)) ∧ ∀ j' (h' : j' < l.length), i ≤ j' → X j' = .osl id → j' = j
  lo : 6 ≤ o ∧ o < nx
theorem LawOK.keep {m : Mod} {s : St} {T T' : ATab} {o : Nat} {X : Nat → AV} {l : List Mv} {i nx nx' : Nat} (h : LawOK m s T o X l i nx) (ht : ∀ id, id < nx → T'.get id = T.get id) (hn : nx ≤ nx') : LawOK m s T' o X l i nx' := by
  have hlo := h.lo
  refine ⟨h.base.keep fun id hid => ht id (by omega), ?_, fun j hj hij => ?_, by omega⟩
  · obtain ⟨rows, h1, h2⟩ := h.out
    exact ⟨rows, (ht o hlo.2).trans h1, h2⟩
  · rcases h.inn j hj hij with h1 | ⟨id, h1, h2, h3, h4, h5, h6⟩
    · exact .inl h1
    · exact .inr ⟨id, h1, h2, h3, by omega, (ht id h4).trans h5, h6⟩
/-- what was written into a move's numbers -/
def updV (vals v : List Int) (k : Nat) : List Int := vals.take k ++ v.drop k
theorem updV_len {vals v : List Int} {k : Nat} (h1 : k ≤ vals.length) (h2 : k ≤ v.length) : (updV vals v k).length = v.length := by
  simp [updV]
  omega
theorem updV_set {vals v : List Int} {k : Nat} (h1 : k < vals.length) (h2 : k < v.length) : (eNs (updV vals v k)).set k [eI vals[k]] = eNs (updV vals v (k + 1)) := by
  apply List.ext_getElem?
  intro j
  rw [List.getElem?_set]
  simp only [List.getElem?_map, updV, List.length_map, List.length_append, List.length_take, List.length_drop]
  by_cases e : k = j
  · subst e
    rw [if_pos rfl, if_pos (by omega), List.getElem?_append_left (by simp; omega)]
    simp [h1]
  · rw [if_neg e]
    by_cases h : j < k
    · rw [List.getElem?_append_left (by simp; omega), List.getElem?_append_left (by simp; omega)]
      simp [h, show j < k + 1 by omega]
    · rw [List.getElem?_append_right (by simp; omega), List.getElem?_append_right (by simp; omega)]
      simp only [List.length_take, List.getElem?_drop]
      congr 2
      omega
theorem updV_ok {vals v : List Int} {k : Nat} (h1 : ∀ x ∈ vals, ok64 x) (h2 : ∀ x ∈ v, ok64 x) : ∀ x ∈ updV vals v k, ok64 x := fun x hx => by
  rcases List.mem_append.1 hx with hx | hx
  · exact h1 x (List.mem_of_mem_take hx)
  · exact h2 x (List.mem_of_mem_drop hx)
theorem mvs_zero {m : Mod} {s : St} : ∀ {n : Nat}, ∀ v ∈ mvsM m s n, ∀ x ∈ v.vals, ok64 x
  | 0, v, h => by simp [mvsM] at h
  | n + 1, v, h => by
    rw [mvsM, List.mem_append] at h
    rcases h with h | h
    · exact mvs_zero v h
    · obtain ⟨u, hu, rfl⟩ := List.mem_map.1 h
      intro x hx
      rw [List.eq_of_mem_replicate hx]
      unfold ok64
      omega
/-- the moves as the law has them -/
noncomputable def lawL (m : Mod) (s : St) : List Mv := if mvsM m s m.events.length = [] then [⟨-1, -1, []⟩] else mvsM m s m.events.length
/-- what is behind a move that is listed, whatever its numbers -/
structure Good (m : Mod) (s : St) (v : Mv) : Prop where
  is : (doM m s v).2 = 0
  chk : chkS m (doM m s v).1 = true
  snd : sndP m s.opn → sndP m (doM m s v).1.opn
  did : ∀ k, k < s.did.length → ∀ i : Int, hasB (s.did.getD k 0) i = true → hasB ((doM m s v).1.did.getD k 0) i = true
  cnt : ∀ k, k < s.cnt.length → s.cnt.getD k 0 ≤ (doM m s v).1.cnt.getD k 0
theorem good_of {m : Mod} {s : St} (hci : circleL (pars m) < 0) (hc : chkS m s = true) {v : Mv} (hv : v ∈ lawL m s) {vs : List Int} (hl : vs.length = v.vals.length) : Good m s ⟨v.event, v.user, vs⟩ := by
  unfold lawL at hv
  split at hv
  · rename_i h0
    obtain rfl : v = ⟨-1, -1, []⟩ := by simpa using hv
    obtain rfl : vs = [] := List.eq_nil_of_length_eq_zero hl
    have hid : idleM ⟨-1, -1, []⟩ = true := rfl
    have hm : mayM m s ⟨-1, -1, []⟩ = 0 := by
      unfold mayM
      rw [if_neg (by rw [hc]; simp), if_pos hid, if_neg (by rw [any_none h0]; simp)]
    have hd : doM m s ⟨-1, -1, []⟩ = (s, 0) := by
      unfold doM
      rw [if_pos hm, if_pos hid]
    refine ⟨?_, ?_, ?_, ?_, ?_⟩
    · show (doM m s ⟨-1, -1, []⟩).2 = 0
      rw [hd]
    · show chkS m (doM m s ⟨-1, -1, []⟩).1 = true
      rw [hd]
      exact hc
    · show sndP m s.opn → sndP m (doM m s ⟨-1, -1, []⟩).1.opn
      rw [hd]
      exact id
    · show ∀ k, k < s.did.length → ∀ i : Int, hasB (s.did.getD k 0) i = true → hasB ((doM m s ⟨-1, -1, []⟩).1.did.getD k 0) i = true
      rw [hd]
      exact fun k _ i h => h
    · show ∀ k, k < s.cnt.length → s.cnt.getD k 0 ≤ (doM m s ⟨-1, -1, []⟩).1.cnt.getD k 0
      rw [hd]
      exact fun k _ => Int.le_refl _
  · obtain ⟨e, he⟩ := mvs_of (Nat.le_refl _) v hv
    have he2 : MvOf m s ⟨v.event, v.user, vs⟩ e := ⟨he.ev, he.lt, he.en, hl.trans he.len⟩
    have hmo := more_of hc he2
    exact ⟨by rw [do_of hc he2], chk_of hc he2, snd_of hci hc he2, hmo.1, hmo.2⟩
/-- while number i is written -/
structure LawW (m : Mod) (s : St) (T : ATab) (o : Nat) (X : Nat → AV) (l : List Mv) (i nx id : Nat) (v : Mv) (nv : List Int) : Prop where
  law : LawOK m s T o X l (i + 1) nx
  row : ∃ rows, T.get o = some (.nest 43 3 rows) ∧ rows.length = l.length ∧ rows[i]?.getD [] = [eI v.event, eI v.user, .osl id]
  own : T.get id = some (.nest 2 1 (eNs nv))
  ge : 6 ≤ id
  ne : id ≠ o
  lt : id < nx
  uniq : ∀ j' (h' : j' < l.length), i + 1 ≤ j' → X j' ≠ .osl id
/-- behind it -/
structure LawD (m : Mod) (s : St) (T : ATab) (o : Nat) (X : Nat → AV) (l : List Mv) (i nx : Nat) (v : Mv) (Y : AV) : Prop where
  law : LawOK m s T o X l (i + 1) nx
  row : ∃ rows, T.get o = some (.nest 43 3 rows) ∧ rows.length = l.length ∧ rows[i]?.getD [] = [eI v.event, eI v.user, Y]
theorem LawD.keep {m : Mod} {s : St} {T T' : ATab} {o : Nat} {X : Nat → AV} {l : List Mv} {i nx nx' : Nat} {v : Mv} {Y : AV} (h : LawD m s T o X l i nx v Y) (ht : ∀ id, id < nx → T'.get id = T.get id) (hn : nx ≤ nx') : LawD m s T' o X l i nx' v Y := by
  obtain ⟨rows, h1, h2⟩ := h.row
  exact ⟨h.law.keep ht hn, rows, (ht o h.law.lo.2).trans h1, h2⟩
theorem LawOK.next {m : Mod} {s : St} {T : ATab} {o : Nat} {X : Nat → AV} {l : List Mv} {i nx : Nat} (h : LawOK m s T o X l i nx) : LawOK m s T o X l (i + 1) nx := by
  refine ⟨h.base, ?_, fun j hj hij => ?_, h.lo⟩
  · obtain ⟨rows, h1, h2, h3⟩ := h.out
    exact ⟨rows, h1, h2, fun j hj hij => h3 j hj (by omega)⟩
  · rcases h.inn j hj (by omega) with h1 | ⟨id, h1, h2, h3, h4, h5, h6⟩
    · exact .inl h1
    · exact .inr ⟨id, h1, h2, h3, h4, h5, fun j' hj' hij' => h6 j' hj' (by omega)⟩
theorem LawOK.nil {m : Mod} {s : St} {T : ATab} {o : Nat} {X : Nat → AV} {l : List Mv} {i nx : Nat} (h : LawOK m s T o X l i nx) (hi : i < l.length) (hX : X i = .c (.slice none 0 0)) : LawD m s T o X l i nx l[i] (.c (.slice none 0 0)) := by
  refine ⟨h.next, ?_⟩
  obtain ⟨rows, h1, h2, h3⟩ := h.out
  exact ⟨rows, h1, h2, by rw [h3 i hi (Nat.le_refl _), hX]⟩
theorem LawOK.own {m : Mod} {s : St} {T : ATab} {o : Nat} {X : Nat → AV} {l : List Mv} {i nx id : Nat} (h : LawOK m s T o X l i nx) (hi : i < l.length) (hX : X i = .osl id) (h2 : 6 ≤ id) (h3 : id ≠ o) (h4 : id < nx) (h5 : T.get id = some (.nest 2 1 (eNs l[i].vals))) (h6 : ∀ j' (h' : j' < l.length), i ≤ j' → X j' = .osl id → j' = i) : LawW m s T o X l i nx id l[i] l[i].vals := by
  refine ⟨h.next, ?_, h5, h2, h3, h4, fun j' hj' hij' e => by have := h6 j' hj' (by omega) e; omega⟩
  obtain ⟨rows, g1, g2, g3⟩ := h.out
  exact ⟨rows, g1, g2, by rw [g3 i hi (Nat.le_refl _), hX]⟩
theorem LawW.set {m : Mod} {s : St} {T : ATab} {o : Nat} {X : Nat → AV} {l : List Mv} {i nx id : Nat} {v : Mv} {nv : List Int} (h : LawW m s T o X l i nx id v nv) (nv' : List Int) : LawW m s ((id, some (.nest 2 1 (eNs nv'))) :: T) o X l i nx id v nv' := by
  have hg : ∀ k, k ≠ id → ATab.get ((id, some (.nest 2 1 (eNs nv'))) :: T) k = T.get k := fun k hk => by rw [ATab.get_cons, if_neg hk]
  have hge := h.ge
  refine ⟨⟨h.law.base.keep fun k hk => hg k (by omega), ?_, fun j hj hij => ?_, h.law.lo⟩, ?_, by rw [ATab.get_cons, if_pos rfl], h.ge, h.ne, h.lt, h.uniq⟩
  · obtain ⟨rows, h1, h2⟩ := h.law.out
    exact ⟨rows, (hg o (Ne.symm h.ne)).trans h1, h2⟩
  · rcases h.law.inn j hj hij with h1 | ⟨id', h1, h2, h3, h4, h5, h6⟩
    · exact .inl h1
    · have hne : id' ≠ id := fun e => h.uniq j hj hij (by rw [h1, e])
      exact .inr ⟨id', h1, h2, h3, h4, (hg id' hne).trans h5, h6⟩
  · obtain ⟨rows, h1, h2⟩ := h.row
    exact ⟨rows, (hg o (Ne.symm h.ne)).trans h1, h2⟩
theorem LawW.frz {m : Mod} {s : St} {T T' : ATab} {o : Nat} {X : Nat → AV} {l : List Mv} {i nx id : Nat} {v : Mv} {nv : List Int} (h : LawW m s T o X l i nx id v nv) (ht : ∀ k, T'.get k = if k = id then none else (T.get k).map (AObj.frz id 1 (eNs nv))) : LawD m s T' o X l i nx v (sI nv) := by
  have hrow : ∀ (rows : List (List AV)) (j : Nat) (e u x : AV), rows[j]?.getD [] = [e, u, x] → (rows.map (AV.frzL id 1 (eNs nv)))[j]?.getD [] = [e.frz id 1 (eNs nv), u.frz id 1 (eNs nv), x.frz id 1 (eNs nv)] := fun rows j e u x hr => by
    rw [List.getElem?_map]
    cases hj : rows[j]? with
    | none => rw [hj] at hr; cases hr
    | some r =>
      rw [hj] at hr
      simp only [Option.getD_some] at hr
      rw [hr]
      rfl
  have hgo : ∀ rows, T.get o = some (.nest 43 3 rows) → T'.get o = some (.nest 43 3 (rows.map (AV.frzL id 1 (eNs nv)))) := fun rows hr => by
    rw [ht, if_neg (Ne.symm h.ne), hr]
    rfl
  refine ⟨⟨h.law.base.frz h.ge ht, ?_, fun j hj hij => ?_, h.law.lo⟩, ?_⟩
  · obtain ⟨rows, h1, h2, h3⟩ := h.law.out
    refine ⟨_, hgo rows h1, by simpa using h2, fun j hj hij => ?_⟩
    rw [hrow rows j _ _ _ (h3 j hj hij)]
    have : (X j).frz id 1 (eNs nv) = X j := by
      rcases h.law.inn j hj hij with ⟨h4, _⟩ | ⟨id', h4, _⟩
      · rw [h4]
        rfl
      · have hne : id' ≠ id := fun e => h.uniq j hj hij (by rw [h4, e])
        rw [h4]
        simp [AV.frz, hne]
    rw [this]
    rfl
  · rcases h.law.inn j hj hij with h1 | ⟨id', h1, h2, h3, h4, h5, h6⟩
    · exact .inl h1
    · have hne : id' ≠ id := fun e => h.uniq j hj hij (by rw [h1, e])
      refine .inr ⟨id', h1, h2, h3, h4, ?_, h6⟩
      rw [ht, if_neg hne, h5]
      simp [AObj.frz, AV.frzL, AV.frz, Function.comp_def]
  · obtain ⟨rows, h1, h2, h3⟩ := h.row
    refine ⟨_, hgo rows h1, by simpa using h2, ?_⟩
    rw [hrow rows i _ _ _ h3]
    simp [AV.frz]
theorem law_init {m : Mod} {s : St} {T : ATab} {o nx : Nat} {ids : Nat → Nat} {l : List Mv} (hN : MvsOK T o ids l nx) : LawOK m s (T.shift 6 ++ base5 m s) (o + 6) (fun j => .osl (ids j + 6)) l 0 (6 + nx) := by
  have hy : ∀ id ob, (base5 m s).get id = some ob → id < 6 := fun id ob h => by
    unfold base5 at h
    simp only [ATab.get_cons] at h
    repeat' split at h
    all_goals first | omega | cases h
  have hg := shift_get hy T
  have hlo := hN.lo
  refine ⟨(base_ok m s).keep fun id hid => by rw [hg, if_pos hid], ⟨(mvRows ids l).map (AV.shiftL 6), ?_, by rw [List.length_map, mvRows_len], fun j hj _ => ?_⟩, fun j hj _ => .inr ⟨ids j + 6, rfl, by omega, ?_, ?_, ?_, fun j' hj' _ e => ?_⟩, by omega⟩
  · rw [hg, if_neg (by omega), show o + 6 - 6 = o by omega, hN.out]
    rfl
  · rw [List.getElem?_map]
    have := mvRows_at (ids := ids) hj
    cases hr : (mvRows ids l)[j]? with
    | none => rw [hr] at this; cases this
    | some r =>
      rw [hr] at this
      simp only [Option.getD_some] at this
      rw [this]
      rfl
  · have := hN.ne j hj
    omega
  · have := hN.lt j hj
    omega
  · rw [hg, if_neg (by omega), show ids j + 6 - 6 = ids j by omega, hN.inn j hj]
    simp [AObj.shift, shiftL_map, AV.shift, Function.comp_def]
  · simp only [AV.osl.injEq] at e
    exact hN.inj j' j hj' hj (by omega)
theorem law_idle {m : Mod} {s : St} : LawOK m s ((6, some (.nest 43 3 [[eI (-1), eI (-1), .c (.slice none 0 0)]])) :: (6, some (.row 43 3 [[eI (-1), eI (-1), .c (.slice none 0 0)]])) :: base5 m s) 6 (fun _ => .c (.slice none 0 0)) [⟨-1, -1, []⟩] 0 7 := by
  refine ⟨(base_ok m s).keep fun id hid => by simp only [ATab.get_cons]; rw [if_neg (by omega), if_neg (by omega)], ⟨_, by rw [ATab.get_cons, if_pos rfl], rfl, fun j hj _ => ?_⟩, fun j hj _ => .inl ⟨rfl, ?_⟩, by omega⟩
  · simp at hj
    subst hj
    rfl
  · simp at hj
    subst hj
    rfl
end
end Go.Proofs.Ytcindbpnaicemaa
