/-
  Parts of the proof: E2, E3, E4, E5.
-/
import Derived.Test.YtfocnmkbnccilaaGreatRun12
set_option linter.unusedVariables false
set_option linter.unusedSimpArgs false
namespace Go.Proofs.YtfocnmkbnccilaaGreat
section
open Go.RowKit
set_option maxRecDepth 100000 in
theorem completeR_A (m : Mod) (s : St) (hl : m.miles.length ≤ 1000000) (hd : ok64 s.don) : ADet Tryz.prog 63 [.agg (eMod m), .agg (eSt s)] (val (.bool (completeM m s))) := by
  refine adet_of_code mixedT Tryz.func63 rfl (by decide) Tryz.ntmps63 Tryz.results63 rfl (val_ok _) ?_
  (repeat' (first | simp (maxSteps := 5000000) (implicitDefEqProofs := false) only [ruA, ruB, aEv, ASt.get, aget, ASt.put, aBox, aCells, oneC, oneCL, Value.oneCell', envOf, ↓reduceIte, Nat.reduceLT, Nat.reduceEqDiff, Nat.reduceAdd, eq_self] | (with_reducible refine aIf_split (fun _ => ?_) (fun _ => ?_)) | (with_reducible refine aSel_split (fun _ => ?_) (fun _ => ?_)) | (with_reducible refine aGd_split (fun _ => ?_) (fun _ => ?_)) | (with_reducible refine aDraw_quiet (by kernel_rfl) ?_)))
  unfold completeM
  refine aLoop_of (fun st => ∃ k : Nat, k ≤ m.miles.length ∧ anyN (completeAt m s) k = false ∧ st = ⟨25, [(2, .op 0 0 0), (3, .op 1 0 0), (5, eI (k : Int))], [(0, some (.box 32 (eMod m))), (1, some (.box 47 (eSt s)))], 2⟩) (fun st => m.miles.length - slotN st 5) ⟨_, (weak_cut1 (by (first | ((simp only [envIn, tabIn, envLt, tabLt, AObj.lt, AV.lt, AV.ltL, ruW, ASt.get, aget, ↓reduceIte, reduceCtorEq, Nat.reduceLT, Nat.reduceEqDiff, eq_self]) <;> (repeat' apply And.intro) <;> first | (rw [wrapK (by omega)]; done) | (simp; done) | omega) | fail))), 0, Nat.zero_le _, rfl, rfl⟩ ?_
  rintro _ ⟨k, hk, hI, rfl⟩
  by_cases hlt : k < m.miles.length
  · have eF : completeAt m s k = (m.miles[k].final && hasB s.don (k : Int)) := by simp [completeAt, hlt]
    (repeat' (first | simp (maxSteps := 5000000) (implicitDefEqProofs := false) only [ruA, ruB, aEv, aTake, aLoad, aField, aIndex, aLen, aBin, bin2, ASt.get, aget, ASt.put, aResL, aOne, ↓reduceIte, reduceCtorEq, Nat.reduceLT, Nat.reduceEqDiff, Nat.reduceAdd, Nat.reduceLeDiff, eq_self, ne_eq, tyF_32_7, tyA_28, tyS_28, tyE_28, tyF_59_4, tyA_4, tyS_4, tyF_47_2, tyA_3, tyS_3, row_at, hlt] | (with_reducible refine aIf_split (fun _ => ?_) (fun _ => ?_)) | (with_reducible refine aSel_split (fun _ => ?_) (fun _ => ?_)) | (with_reducible refine aGd_split (fun _ => ?_) (fun _ => ?_)) | (with_reducible refine aDraw_quiet (by kernel_rfl) ?_) | ((with_reducible apply callV (g := 48)); exact (hasR_A _ _ hd)) | ((with_reducible apply callD (g := 48)); exact (hasR_A _ _ hd))))
    all_goals first
      | (symm; refine anyN_yes hlt ?_; rw [eF]; grind)
      | exact roundI (weak_cut1 (by (first | ((simp only [envIn, tabIn, envLt, tabLt, AObj.lt, AV.lt, AV.ltL, ruW, ASt.get, aget, ↓reduceIte, Nat.reduceLT, Nat.reduceEqDiff, eq_self]) <;> (repeat' apply And.intro) <;> first | (rw [wrapK (by omega)]; done) | (simp; done) | omega) | fail))) ⟨k + 1, by omega, anyN_step hI (by rw [eF]; grind), rfl⟩ (by simp only [slotN, ASt.get, aget, ↓reduceIte, Nat.reduceLT, Nat.reduceEqDiff, eq_self]; omega)
      | trace_state
  · obtain rfl : k = m.miles.length := by omega
    (repeat' (first | simp (maxSteps := 5000000) (implicitDefEqProofs := false) only [ruA, ruB, aEv, aTake, aLoad, aField, aLen, aBin, bin2, ASt.get, aget, ASt.put, aResL, aOne, ↓reduceIte, reduceCtorEq, Nat.reduceLT, Nat.reduceEqDiff, Nat.reduceAdd, Nat.reduceLeDiff, eq_self, ne_eq, tyF_32_7, tyA_28, tyS_28, tyE_28, hlt] | (with_reducible refine aIf_split (fun _ => ?_) (fun _ => ?_)) | (with_reducible refine aSel_split (fun _ => ?_) (fun _ => ?_)) | (with_reducible refine aGd_split (fun _ => ?_) (fun _ => ?_)) | (with_reducible refine aDraw_quiet (by kernel_rfl) ?_)))
    exact hI.symm
theorem in17_A (n most : Int) : ADet Tryz.prog 62 [eI n, eI most] (val (.bool (inB n most))) := by
  refine adet_of_code mixedT Tryz.func62 rfl (by decide) Tryz.ntmps62 Tryz.results62 rfl (val_ok _) ?_
  unfold inB
  (repeat' (first | simp (maxSteps := 5000000) (implicitDefEqProofs := false) only [ruA, ruB, aEv, aBin, bin2, ASt.get, aget, ASt.put, envOf, aResL, aOne, ↓reduceIte, reduceCtorEq, Nat.reduceLT, Nat.reduceEqDiff, eq_self] | (with_reducible refine aIf_split (fun _ => ?_) (fun _ => ?_)) | (with_reducible refine aSel_split (fun _ => ?_) (fun _ => ?_)) | (with_reducible refine aGd_split (fun _ => ?_) (fun _ => ?_))))
  all_goals grind
set_option maxRecDepth 100000 in
set_option maxHeartbeats 8000000 in
theorem freeR_A (m : Mod) (s : St) (event user : Int) (hl : m.miles.length ≤ 1000000) (ho : ok64 s.opn) (hd : ok64 s.don) (hr : ∀ p ∈ m.roles, ok64 p.2) : ADet Tryz.prog 44 [.agg (eMod m), .agg (eSt s), eI event, eI user] (val (.bool (freeM m s event user))) := by
  refine adet_of_code mixedT Tryz.func44 rfl (by decide) Tryz.ntmps44 Tryz.results44 rfl (val_ok _) ?_
  by_cases h : 0 ≤ event ∧ event < (m.events.length : Int)
  · obtain ⟨k, rfl⟩ : ∃ k : Nat, event = (k : Int) := ⟨event.toNat, by omega⟩
    have hk : k < m.events.length := by omega
    obtain ⟨x, hx⟩ : ∃ x, m.events[k] = x := ⟨_, rfl⟩
    have ee : evAt m (k : Int) = some x := by simp [evAt, hk, hx]
    have eR : freeM m s k user = (!completeM m s && decide (x.stage < (m.stages.length : Int)) && hasB s.opn x.stage && ofR m x.role user && (decide (x.times ≤ 0) || decide (atI s.cnt k < x.times))) := by simp only [freeM, ee]
    have eN : ¬ 0 ≤ x.stage → hasB s.opn x.stage = false := fun h => hasB_out _ _ (by omega)
    rw [eR]
    by_cases hc : k < s.cnt.length
    · have eA : atI s.cnt k = s.cnt[k] := by simp [atI, hc]
      by_cases hro : 0 ≤ x.role ∧ x.role < (m.roles.length : Int)
      · obtain ⟨q, hq⟩ : ∃ q : Nat, x.role = (q : Int) := ⟨x.role.toNat, by omega⟩
        have hq2 : q < m.roles.length := by omega
        have eO : ofR m x.role user = (decide (0 ≤ user) && decide (user < (m.users.length : Int)) && hasB m.roles[q].2 user) := by simp [ofR, hq, hq2]
        have hrq := hr _ (List.getElem_mem hq2)
        rw [eA, eO]
        unfold inB at *
        (repeat' (first | simp (maxSteps := 5000000) (implicitDefEqProofs := false) only [ruA, ruB, aEv, aTake, aLoad, aField, aIndex, aLen, aBin, bin2, aUn, un1, ASt.get, aget, ASt.put, aStore, aBox, aCells, oneC, oneCL, Value.cells, Value.oneCell', envOf, aResL, aOne, ↓reduceIte, reduceCtorEq, Nat.reduceLT, Nat.reduceEqDiff, Nat.reduceAdd, Nat.reduceLeDiff, eq_self, ne_eq, tyF_32_5, tyA_26, tyS_26, tyE_26, tyF_32_2, tyA_22, tyS_22, tyE_22, tyA_61, tyS_61, tyZ_61, tyF_47_4, tyA_45, tyS_45, tyE_45, tyA_3, tyS_3, tyA_32, tyS_32, tyA_47, tyS_47, tyF_61_2, tyF_32_4, tyA_25, tyS_25, tyE_25, tyF_47_1, tyF_61_4, tyF_61_1, tyF_32_3, tyA_24, tyS_24, tyE_24, tyF_98_1, row_at, hk, hx, hc, hq, hq2] | (with_reducible refine aIf_split (fun _ => ?_) (fun _ => ?_)) | (with_reducible refine aSel_split (fun _ => ?_) (fun _ => ?_)) | (with_reducible refine aGd_split (fun _ => ?_) (fun _ => ?_)) | (with_reducible refine aDraw_quiet (by kernel_rfl) ?_) | ((with_reducible apply callV (g := 48)); exact (hasR_A _ _ ho)) | ((with_reducible apply callD (g := 48)); exact (hasR_A _ _ ho)) | ((with_reducible apply callV (g := 48)); exact (hasR_A _ _ hrq)) | ((with_reducible apply callD (g := 48)); exact (hasR_A _ _ hrq)) | ((with_reducible apply callV (g := 63)); exact (completeR_A _ _ hl hd)) | ((with_reducible apply callD (g := 63)); exact (completeR_A _ _ hl hd)) | ((with_reducible apply callV (g := 62)); exact (in17_A _ _)) | ((with_reducible apply callD (g := 62)); exact (in17_A _ _))))
        all_goals (unfold inB at *; grind)
      · have eO : ofR m x.role user = false := by
          have : (decide (0 ≤ x.role) && decide (x.role < (m.roles.length : Int))) = false := by
            rw [Bool.and_eq_false_iff]
            simp only [decide_eq_false_iff_not]
            omega
          simp [ofR, this]
        have eI' : inB x.role (m.roles.length : Int) = false := by unfold inB; grind
        rw [eA, eO]
        (repeat' (first | simp (maxSteps := 5000000) (implicitDefEqProofs := false) only [ruA, ruB, aEv, aTake, aLoad, aField, aIndex, aLen, aBin, bin2, aUn, un1, ASt.get, aget, ASt.put, aStore, aBox, aCells, oneC, oneCL, Value.cells, Value.oneCell', envOf, aResL, aOne, ↓reduceIte, reduceCtorEq, Nat.reduceLT, Nat.reduceEqDiff, Nat.reduceAdd, Nat.reduceLeDiff, eq_self, ne_eq, tyF_32_5, tyA_26, tyS_26, tyE_26, tyF_32_2, tyA_22, tyS_22, tyE_22, tyA_61, tyS_61, tyZ_61, tyF_47_4, tyA_45, tyS_45, tyE_45, tyA_3, tyS_3, tyA_32, tyS_32, tyA_47, tyS_47, tyF_61_2, tyF_32_4, tyA_25, tyS_25, tyE_25, tyF_47_1, tyF_61_4, tyF_61_1, tyF_32_3, tyA_24, tyS_24, tyE_24, row_at, hk, hx, hc, eI'] | (with_reducible refine aIf_split (fun _ => ?_) (fun _ => ?_)) | (with_reducible refine aSel_split (fun _ => ?_) (fun _ => ?_)) | (with_reducible refine aGd_split (fun _ => ?_) (fun _ => ?_)) | (with_reducible refine aDraw_quiet (by kernel_rfl) ?_) | ((with_reducible apply callV (g := 48)); exact (hasR_A _ _ ho)) | ((with_reducible apply callD (g := 48)); exact (hasR_A _ _ ho)) | ((with_reducible apply callV (g := 63)); exact (completeR_A _ _ hl hd)) | ((with_reducible apply callD (g := 63)); exact (completeR_A _ _ hl hd)) | ((with_reducible apply callV (g := 62)); exact (in17_A _ _)) | ((with_reducible apply callD (g := 62)); exact (in17_A _ _))))
        all_goals (unfold inB at *; grind)
    · have eA : atI s.cnt k = 0 := by simp [atI]; omega
      by_cases hro : 0 ≤ x.role ∧ x.role < (m.roles.length : Int)
      · obtain ⟨q, hq⟩ : ∃ q : Nat, x.role = (q : Int) := ⟨x.role.toNat, by omega⟩
        have hq2 : q < m.roles.length := by omega
        have eO : ofR m x.role user = (decide (0 ≤ user) && decide (user < (m.users.length : Int)) && hasB m.roles[q].2 user) := by simp [ofR, hq, hq2]
        have hrq := hr _ (List.getElem_mem hq2)
        rw [eA, eO]
        (repeat' (first | simp (maxSteps := 5000000) (implicitDefEqProofs := false) only [ruA, ruB, aEv, aTake, aLoad, aField, aIndex, aLen, aBin, bin2, aUn, un1, ASt.get, aget, ASt.put, aStore, aBox, aCells, oneC, oneCL, Value.cells, Value.oneCell', envOf, aResL, aOne, ↓reduceIte, reduceCtorEq, Nat.reduceLT, Nat.reduceEqDiff, Nat.reduceAdd, Nat.reduceLeDiff, eq_self, ne_eq, tyF_32_5, tyA_26, tyS_26, tyE_26, tyF_32_2, tyA_22, tyS_22, tyE_22, tyA_61, tyS_61, tyZ_61, tyF_47_4, tyA_45, tyS_45, tyE_45, tyA_3, tyS_3, tyA_32, tyS_32, tyA_47, tyS_47, tyF_61_2, tyF_32_4, tyA_25, tyS_25, tyE_25, tyF_47_1, tyF_61_4, tyF_61_1, tyF_32_3, tyA_24, tyS_24, tyE_24, tyF_98_1, row_at, hk, hx, hc, hq, hq2] | (with_reducible refine aIf_split (fun _ => ?_) (fun _ => ?_)) | (with_reducible refine aSel_split (fun _ => ?_) (fun _ => ?_)) | (with_reducible refine aGd_split (fun _ => ?_) (fun _ => ?_)) | (with_reducible refine aDraw_quiet (by kernel_rfl) ?_) | ((with_reducible apply callV (g := 48)); exact (hasR_A _ _ ho)) | ((with_reducible apply callD (g := 48)); exact (hasR_A _ _ ho)) | ((with_reducible apply callV (g := 48)); exact (hasR_A _ _ hrq)) | ((with_reducible apply callD (g := 48)); exact (hasR_A _ _ hrq)) | ((with_reducible apply callV (g := 63)); exact (completeR_A _ _ hl hd)) | ((with_reducible apply callD (g := 63)); exact (completeR_A _ _ hl hd)) | ((with_reducible apply callV (g := 62)); exact (in17_A _ _)) | ((with_reducible apply callD (g := 62)); exact (in17_A _ _))))
        all_goals (unfold inB at *; grind)
      · have eO : ofR m x.role user = false := by
          have : (decide (0 ≤ x.role) && decide (x.role < (m.roles.length : Int))) = false := by
            rw [Bool.and_eq_false_iff]
            simp only [decide_eq_false_iff_not]
            omega
          simp [ofR, this]
        have eI' : inB x.role (m.roles.length : Int) = false := by unfold inB; grind
        rw [eA, eO]
        (repeat' (first | simp (maxSteps := 5000000) (implicitDefEqProofs := false) only [ruA, ruB, aEv, aTake, aLoad, aField, aIndex, aLen, aBin, bin2, aUn, un1, ASt.get, aget, ASt.put, aStore, aBox, aCells, oneC, oneCL, Value.cells, Value.oneCell', envOf, aResL, aOne, ↓reduceIte, reduceCtorEq, Nat.reduceLT, Nat.reduceEqDiff, Nat.reduceAdd, Nat.reduceLeDiff, eq_self, ne_eq, tyF_32_5, tyA_26, tyS_26, tyE_26, tyF_32_2, tyA_22, tyS_22, tyE_22, tyA_61, tyS_61, tyZ_61, tyF_47_4, tyA_45, tyS_45, tyE_45, tyA_3, tyS_3, tyA_32, tyS_32, tyA_47, tyS_47, tyF_61_2, tyF_32_4, tyA_25, tyS_25, tyE_25, tyF_47_1, tyF_61_4, tyF_61_1, tyF_32_3, tyA_24, tyS_24, tyE_24, row_at, hk, hx, hc, eI'] | (with_reducible refine aIf_split (fun _ => ?_) (fun _ => ?_)) | (with_reducible refine aSel_split (fun _ => ?_) (fun _ => ?_)) | (with_reducible refine aGd_split (fun _ => ?_) (fun _ => ?_)) | (with_reducible refine aDraw_quiet (by kernel_rfl) ?_) | ((with_reducible apply callV (g := 48)); exact (hasR_A _ _ ho)) | ((with_reducible apply callD (g := 48)); exact (hasR_A _ _ ho)) | ((with_reducible apply callV (g := 63)); exact (completeR_A _ _ hl hd)) | ((with_reducible apply callD (g := 63)); exact (completeR_A _ _ hl hd)) | ((with_reducible apply callV (g := 62)); exact (in17_A _ _)) | ((with_reducible apply callD (g := 62)); exact (in17_A _ _))))
        all_goals (unfold inB at *; grind)
  · have ee : evAt m event = none := by
      unfold evAt
      split
      · exact List.getElem?_eq_none (by omega)
      · rfl
    have eR : freeM m s event user = false := by simp only [freeM, ee]
    have eI' : inB event (m.events.length : Int) = false := by unfold inB; grind
    rw [eR]
    (repeat' (first | simp (maxSteps := 5000000) (implicitDefEqProofs := false) only [ruA, ruB, aEv, aTake, aLoad, aField, aLen, aUn, un1, ASt.get, aget, ASt.put, aBox, aCells, oneC, oneCL, Value.oneCell', envOf, aResL, aOne, ↓reduceIte, reduceCtorEq, Nat.reduceLT, Nat.reduceEqDiff, Nat.reduceAdd, Nat.reduceLeDiff, eq_self, ne_eq, tyF_32_5, tyA_26, tyS_26, tyE_26, eI'] | (with_reducible refine aIf_split (fun _ => ?_) (fun _ => ?_)) | (with_reducible refine aSel_split (fun _ => ?_) (fun _ => ?_)) | (with_reducible refine aGd_split (fun _ => ?_) (fun _ => ?_)) | (with_reducible refine aDraw_quiet (by kernel_rfl) ?_) | ((with_reducible apply callV (g := 62)); exact (in17_A _ _)) | ((with_reducible apply callD (g := 62)); exact (in17_A _ _))))
end
section
open Go.RowKit
set_option maxRecDepth 100000 in
theorem hadR_A (s : St) (event user : Int) (hd : ∀ x ∈ s.did, ok64 x) : ADet Tryz.prog 45 [.agg (eSt s), eI event, eI user] (val (.bool (hasB (atI s.did event) user))) := by
  refine adet_of_code mixedT Tryz.func45 rfl (by decide) Tryz.ntmps45 Tryz.results45 rfl (val_ok _) ?_
  by_cases h : 0 ≤ event ∧ event < (s.did.length : Int)
  · obtain ⟨k, rfl⟩ : ∃ k : Nat, event = (k : Int) := ⟨event.toNat, by omega⟩
    have hk : k < s.did.length := by omega
    have eA : atI s.did k = s.did[k] := by simp [atI, hk]
    have eI' : inB (k : Int) (s.did.length : Int) = true := by unfold inB; simp; omega
    rw [eA]
    (repeat' (first | simp (maxSteps := 5000000) (implicitDefEqProofs := false) only [ruA, ruB, aEv, aTake, aLoad, aField, aIndex, aLen, ASt.get, aget, ASt.put, aBox, aCells, oneC, oneCL, Value.oneCell', envOf, aResL, aOne, ↓reduceIte, reduceCtorEq, Nat.reduceLT, Nat.reduceEqDiff, Nat.reduceAdd, Nat.reduceLeDiff, eq_self, ne_eq, tyF_47_3, tyA_45, tyS_45, tyE_45, tyA_3, tyS_3, row_at, hk, eI'] | (with_reducible refine aIf_split (fun _ => ?_) (fun _ => ?_)) | (with_reducible refine aSel_split (fun _ => ?_) (fun _ => ?_)) | (with_reducible refine aGd_split (fun _ => ?_) (fun _ => ?_)) | (with_reducible refine aDraw_quiet (by kernel_rfl) ?_) | ((with_reducible apply callV (g := 62)); exact (in17_A _ _)) | ((with_reducible apply callD (g := 62)); exact (in17_A _ _)) | ((with_reducible apply callV (g := 48)); exact (hasR_A _ _ (hd _ (List.getElem_mem hk)))) | ((with_reducible apply callD (g := 48)); exact (hasR_A _ _ (hd _ (List.getElem_mem hk))))))
  · have eA : atI s.did event = 0 := by unfold atI; rw [if_neg h]
    have eI' : inB event (s.did.length : Int) = false := by unfold inB; grind
    have eB' : hasB 0 user = false := by simp [hasB]
    rw [eA, eB']
    (repeat' (first | simp (maxSteps := 5000000) (implicitDefEqProofs := false) only [ruA, ruB, aEv, aTake, aLoad, aField, aLen, ASt.get, aget, ASt.put, aBox, aCells, oneC, oneCL, Value.oneCell', envOf, aResL, aOne, ↓reduceIte, reduceCtorEq, Nat.reduceLT, Nat.reduceEqDiff, Nat.reduceAdd, Nat.reduceLeDiff, eq_self, ne_eq, tyF_47_3, tyA_45, tyS_45, tyE_45, eI'] | (with_reducible refine aIf_split (fun _ => ?_) (fun _ => ?_)) | (with_reducible refine aSel_split (fun _ => ?_) (fun _ => ?_)) | (with_reducible refine aGd_split (fun _ => ?_) (fun _ => ?_)) | (with_reducible refine aDraw_quiet (by kernel_rfl) ?_) | ((with_reducible apply callV (g := 62)); exact (in17_A _ _)) | ((with_reducible apply callD (g := 62)); exact (in17_A _ _))))
set_option maxRecDepth 100000 in
set_option maxHeartbeats 8000000 in
theorem enabledR_A (m : Mod) (s : St) (event user : Int) (hl : m.miles.length ≤ 1000000) (hl2 : m.sods.length ≤ 1000000) (ho : ok64 s.opn) (hd : ok64 s.don) (hr : ∀ p ∈ m.roles, ok64 p.2) (hdid : ∀ x ∈ s.did, ok64 x) : ADet Tryz.prog 32 [.agg (eMod m), .agg (eSt s), eI event, eI user] (val (.bool (enabledM m s event user))) := by
  refine adet_of_code mixedT Tryz.func32 rfl (by decide) Tryz.ntmps32 Tryz.results32 rfl (val_ok _) ?_
  unfold enabledM
  cases hfr : freeM m s event user with
  | false =>
    (repeat' (first | simp (maxSteps := 5000000) (implicitDefEqProofs := false) only [ruA, ruB, aEv, aTake, aLoad, aUn, un1, ASt.get, aget, ASt.put, aBox, aCells, oneC, oneCL, Value.oneCell', envOf, aResL, aOne, ↓reduceIte, reduceCtorEq, Nat.reduceLT, Nat.reduceEqDiff, Nat.reduceAdd, eq_self, tyA_32, tyS_32, tyA_47, tyS_47, hfr] | (with_reducible refine aIf_split (fun _ => ?_) (fun _ => ?_)) | (with_reducible refine aSel_split (fun _ => ?_) (fun _ => ?_)) | (with_reducible refine aGd_split (fun _ => ?_) (fun _ => ?_)) | (with_reducible refine aDraw_quiet (by kernel_rfl) ?_) | ((with_reducible apply callV (g := 44)); exact (freeR_A m s event user hl ho hd hr)) | ((with_reducible apply callD (g := 44)); exact (freeR_A m s event user hl ho hd hr))))
    rfl
  | true =>
    (repeat' (first | simp (maxSteps := 5000000) (implicitDefEqProofs := false) only [ruA, ruB, aEv, aTake, aLoad, aUn, un1, ASt.get, aget, ASt.put, aBox, aCells, oneC, oneCL, Value.oneCell', envOf, ↓reduceIte, reduceCtorEq, Nat.reduceLT, Nat.reduceEqDiff, Nat.reduceAdd, eq_self, tyA_32, tyS_32, tyA_47, tyS_47, hfr] | (with_reducible refine aIf_split (fun _ => ?_) (fun _ => ?_)) | (with_reducible refine aSel_split (fun _ => ?_) (fun _ => ?_)) | (with_reducible refine aGd_split (fun _ => ?_) (fun _ => ?_)) | (with_reducible refine aDraw_quiet (by kernel_rfl) ?_) | ((with_reducible apply callV (g := 44)); exact (freeR_A m s event user hl ho hd hr)) | ((with_reducible apply callD (g := 44)); exact (freeR_A m s event user hl ho hd hr))))
    unfold apartM
    refine aLoop_of (fun st => ∃ k : Nat, k ≤ m.sods.length ∧ anyN (apartAt m s event user) k = false ∧ st = ⟨57, [(2, eI event), (3, eI user), (4, .op 0 0 0), (5, .op 1 0 0), (9, eI (k : Int))], [(0, some (.box 32 (eMod m))), (1, some (.box 47 (eSt s)))], 2⟩) (fun st => m.sods.length - slotN st 9) ⟨_, (weak_cut1 (by (first | ((simp only [envIn, tabIn, envLt, tabLt, AObj.lt, AV.lt, AV.ltL, ruW, ASt.get, aget, ↓reduceIte, reduceCtorEq, Nat.reduceLT, Nat.reduceEqDiff, eq_self]) <;> (repeat' apply And.intro) <;> first | (rw [wrapK (by omega)]; done) | (simp; done) | omega) | fail))), 0, Nat.zero_le _, rfl, rfl⟩ ?_
    rintro _ ⟨k, hk, hI, rfl⟩
    by_cases hlt : k < m.sods.length
    · obtain ⟨⟨a, b⟩, hx⟩ : ∃ x, m.sods[k] = x := ⟨_, rfl⟩
      have ex : eII m.sods[k] = [eI a, eI b] := by rw [hx]
      have eF : apartAt m s event user k = (((a == event) && hasB (atI s.did b) user) || ((b == event) && hasB (atI s.did a) user)) := by simp [apartAt, hlt, hx]
      (repeat' (first | simp (maxSteps := 5000000) (implicitDefEqProofs := false) only [ruA, ruB, aEv, aTake, aLoad, aField, aLen, aBin, bin2, ASt.get, aget, ASt.put, ↓reduceIte, reduceCtorEq, Nat.reduceLT, Nat.reduceEqDiff, Nat.reduceAdd, Nat.reduceLeDiff, eq_self, ne_eq, tyF_32_8, tyA_29, tyS_29, tyE_29, hlt] | (with_reducible refine aIf_split (fun _ => ?_) (fun _ => ?_)) | (with_reducible refine aSel_split (fun _ => ?_) (fun _ => ?_)) | (with_reducible refine aGd_split (fun _ => ?_) (fun _ => ?_))))
      refine aDraw_held [] [0, 1, 2, 3, 4, 5, 6, 7, 8, 9, 10, 11] (.exec 12 (.exec 13 .done)) (by kernel_rfl) (by simp [ATab.get_cons]) ?_
      (repeat' (first | simp (maxSteps := 5000000) (implicitDefEqProofs := false) only [ruA, ruB, aEv, aTake, aLoad, aField, aIndex, aBin, bin2, ASt.get, aget, ASt.put, aResL, aOne, ↓reduceIte, reduceCtorEq, Nat.reduceLT, Nat.reduceEqDiff, Nat.reduceAdd, Nat.reduceLeDiff, eq_self, aTakes, aFrom, tyA_47, tyS_47, tyF_32_8, tyA_29, tyS_29, tyE_29, tyF_83_0, tyA_3, tyS_3, tyF_83_1, row_at, hlt, ex] | (with_reducible refine aIf_split (fun _ => ?_) (fun _ => ?_)) | (with_reducible refine aSel_split (fun _ => ?_) (fun _ => ?_)) | (with_reducible refine aGd_split (fun _ => ?_) (fun _ => ?_)) | (with_reducible refine aDraw_quiet (by kernel_rfl) ?_) | ((with_reducible apply callV (g := 45)); exact (hadR_A s b user hdid)) | ((with_reducible apply callD (g := 45)); exact (hadR_A s b user hdid)) | ((with_reducible apply callV (g := 45)); exact (hadR_A s a user hdid)) | ((with_reducible apply callD (g := 45)); exact (hadR_A s a user hdid))))
      all_goals first
        | (rw [show anyN (apartAt m s event user) m.sods.length = true from anyN_yes hlt (by rw [eF]; grind)]; rfl)
        | exact roundI (weak_cut1 (by (first | ((simp only [envIn, tabIn, envLt, tabLt, AObj.lt, AV.lt, AV.ltL, ruW, ASt.get, aget, ↓reduceIte, Nat.reduceLT, Nat.reduceEqDiff, eq_self]) <;> (repeat' apply And.intro) <;> first | (rw [wrapK (by omega)]; done) | (simp; done) | omega) | fail))) ⟨k + 1, by omega, anyN_step hI (by rw [eF]; grind), rfl⟩ (by simp only [slotN, ASt.get, aget, ↓reduceIte, Nat.reduceLT, Nat.reduceEqDiff, eq_self]; omega)
        | trace_state
    · obtain rfl : k = m.sods.length := by omega
      (repeat' (first | simp (maxSteps := 5000000) (implicitDefEqProofs := false) only [ruA, ruB, aEv, aTake, aLoad, aField, aLen, aBin, bin2, ASt.get, aget, ASt.put, aResL, aOne, ↓reduceIte, reduceCtorEq, Nat.reduceLT, Nat.reduceEqDiff, Nat.reduceAdd, Nat.reduceLeDiff, eq_self, ne_eq, tyF_32_8, tyA_29, tyS_29, tyE_29, hlt] | (with_reducible refine aIf_split (fun _ => ?_) (fun _ => ?_)) | (with_reducible refine aSel_split (fun _ => ?_) (fun _ => ?_)) | (with_reducible refine aGd_split (fun _ => ?_) (fun _ => ?_)) | (with_reducible refine aDraw_quiet (by kernel_rfl) ?_)))
      rw [hI]
      rfl
set_option maxRecDepth 100000 in
set_option maxHeartbeats 8000000 in
theorem whoR_A (m : Mod) (s : St) (event : Int) (hl : m.miles.length ≤ 1000000) (hl2 : m.sods.length ≤ 1000000) (hl3 : m.users.length ≤ 1000000) (ho : ok64 s.opn) (hd : ok64 s.don) (hr : ∀ p ∈ m.roles, ok64 p.2) (hdid : ∀ x ∈ s.did, ok64 x) : ADet Tryz.prog 43 [.agg (eMod m), .agg (eSt s), eI event] (own 3 1 ((whoM m s event).map fun n => [eI n])) := by
  refine adet_of_code mixedT Tryz.func43 rfl (by decide) Tryz.ntmps43 Tryz.results43 rfl (own_ok _ _ _) ?_
  (repeat' (first | simp (maxSteps := 5000000) (implicitDefEqProofs := false) only [ruA, ruB, aEv, ASt.get, aget, ASt.put, aBox, aCells, oneC, oneCL, Value.oneCell', envOf, ↓reduceIte, Nat.reduceLT, Nat.reduceEqDiff, Nat.reduceAdd, eq_self] | (with_reducible refine aIf_split (fun _ => ?_) (fun _ => ?_)) | (with_reducible refine aSel_split (fun _ => ?_) (fun _ => ?_)) | (with_reducible refine aGd_split (fun _ => ?_) (fun _ => ?_))))
  unfold whoM
  obtain ⟨f, hf⟩ : ∃ f : Nat → Bool, f = fun u : Nat => enabledM m s event (u : Int) := ⟨_, rfl⟩
  rw [← hf]
  have e0 : filtN f 0 = [] := rfl
  refine aLoop_of (fun st => ∃ k : Nat, k ≤ m.users.length ∧ st = ⟨26, [(2, eI event), (3, .op 0 0 0), (4, .op 1 0 0), (7, .osl 2), (8, eI (k : Int))], [(0, some (.box 32 (eMod m))), (1, some (.box 47 (eSt s))), (2, some (.row 3 1 ((filtN f k).map fun n => [eI n])))], 3⟩) (fun st => m.users.length - slotN st 8) ⟨_, ((weak_nil 7 3 1 (by simp only [ASt.get, aget, ↓reduceIte, Nat.reduceLT, Nat.reduceEqDiff, eq_self])).trans (weak_ren1 [0, 1, 2] ⟨(by decide), (by (first | ((simp only [envInR, tabInR, envLt, tabLt, AObj.lt, AV.lt, AV.ltL, AV.ren, AV.renL, AObj.ren, List.getD_cons_zero, List.getD_cons_succ, List.length_cons, List.length_nil, ruW, ASt.get, aget, ↓reduceIte, reduceCtorEq, Nat.reduceLT, Nat.reduceEqDiff, Nat.reduceAdd, eq_self, e0]) <;> (repeat' apply And.intro) <;> first | (rw [wrapK (by omega)]; done) | (simp; done) | omega) | fail))⟩)), 0, Nat.zero_le _, rfl⟩ ?_
  rintro _ ⟨k, hk, rfl⟩
  have hlen := filtN_len f k
  by_cases hlt : k < m.users.length
  · have hef : enabledM m s event (k : Int) = f k := by rw [hf]
    (repeat' (first | simp (maxSteps := 5000000) (implicitDefEqProofs := false) only [ruA, ruB, aEv, aTake, aLoad, aField, aLen, aBin, bin2, ASt.get, aget, ASt.put, aAppend, aBuildSlice, aCells, oneC, oneCL, treeC, treeL, aLit, aDst, aSrc, appTab, Value.cells, Value.oneCell', ↓reduceIte, reduceCtorEq, Nat.reduceLT, Nat.reduceEqDiff, Nat.reduceAdd, Nat.reduceMul, Nat.reduceLeDiff, eq_self, ne_eq, aBuildSlice1, frzs, ownIds, tyF_32_2, tyA_22, tyS_22, tyE_22, tyA_32, tyS_32, tyA_47, tyS_47, tyR_45, hlt] | (with_reducible refine aIf_split (fun _ => ?_) (fun _ => ?_)) | (with_reducible refine aSel_split (fun _ => ?_) (fun _ => ?_)) | (with_reducible refine aGd_split (fun _ => ?_) (fun _ => ?_)) | (with_reducible refine aDraw_quiet (by kernel_rfl) ?_) | ((refine callV (enabledR_A m s event (k : Int) hl hl2 ho hd hr hdid) ?_; rw [hef]))))
    · rename_i h
      have et : (filtN f (k + 1)).map (fun n => [eI n]) = (filtN f k).map (fun n => [eI n]) ++ [[eI (k : Int)]] := by
        rw [filtN, if_pos h]
        simp
      refine ⟨rfl, by omega, roundI (weak_ren1 [0, 1, 4] ⟨(by decide), (by (first | ((simp only [envInR, tabInR, envLt, tabLt, AObj.lt, AV.lt, AV.ltL, AV.ren, AV.renL, AObj.ren, List.getD_cons_zero, List.getD_cons_succ, List.length_cons, List.length_nil, ruW, ASt.get, aget, ↓reduceIte, reduceCtorEq, Nat.reduceLT, Nat.reduceEqDiff, Nat.reduceAdd, eq_self, et]) <;> (repeat' apply And.intro) <;> first | (rw [wrapK (by omega)]; done) | (simp; done) | omega) | fail))⟩) ⟨k + 1, by omega, rfl⟩ (by simp only [slotN, ruW, ASt.get, aget, ↓reduceIte, Nat.reduceLT, Nat.reduceEqDiff, eq_self]; omega)⟩
    · rename_i h
      have et : filtN f (k + 1) = filtN f k := by
        rw [filtN, if_neg (by simp [h])]
      exact roundI (weak_cut1 (by (first | ((simp only [envIn, tabIn, envLt, tabLt, AObj.lt, AV.lt, AV.ltL, ruW, ASt.get, aget, ↓reduceIte, Nat.reduceLT, Nat.reduceEqDiff, eq_self, et]) <;> (repeat' apply And.intro) <;> first | (rw [wrapK (by omega)]; done) | (simp; done) | omega) | fail))) ⟨k + 1, by omega, rfl⟩ (by simp only [slotN, ruW, ASt.get, aget, ↓reduceIte, Nat.reduceLT, Nat.reduceEqDiff, eq_self]; omega)
  · obtain rfl : k = m.users.length := by omega
    (repeat' (first | simp (maxSteps := 5000000) (implicitDefEqProofs := false) only [ruA, ruB, aEv, aTake, aLoad, aField, aLen, aBin, bin2, ASt.get, aget, ASt.put, aResL, aOne, ↓reduceIte, reduceCtorEq, Nat.reduceLT, Nat.reduceEqDiff, Nat.reduceAdd, Nat.reduceLeDiff, eq_self, ne_eq, tyF_32_2, tyA_22, tyS_22, tyE_22, hlt] | (with_reducible refine aIf_split (fun _ => ?_) (fun _ => ?_)) | (with_reducible refine aSel_split (fun _ => ?_) (fun _ => ?_)) | (with_reducible refine aGd_split (fun _ => ?_) (fun _ => ?_)) | (with_reducible refine aDraw_quiet (by kernel_rfl) ?_)))
    exact aGives_own (by simp [ATab.get_cons])
theorem filtN_pos (f : Nat → Bool) : ∀ n, decide (0 < ((filtN f n).length : Int)) = anyN f n
  | 0 => rfl
  | n + 1 => by
    have := filtN_pos f n
    unfold filtN anyN
    split
    · rename_i h
      simp [h]
    · rename_i h
      simp only [h, Bool.or_false, this]
set_option maxRecDepth 100000 in
set_option maxHeartbeats 8000000 in
theorem anyR_A (m : Mod) (s : St) (hle : m.events.length ≤ 1000000) (hl : m.miles.length ≤ 1000000) (hl2 : m.sods.length ≤ 1000000) (hl3 : m.users.length ≤ 1000000) (ho : ok64 s.opn) (hd : ok64 s.don) (hr : ∀ p ∈ m.roles, ok64 p.2) (hdid : ∀ x ∈ s.did, ok64 x) : ADet Tryz.prog 31 [.agg (eMod m), .agg (eSt s)] (val (.bool (anyM m s))) := by
  refine adet_of_code mixedT Tryz.func31 rfl (by decide) Tryz.ntmps31 Tryz.results31 rfl (val_ok _) ?_
  (repeat' (first | simp (maxSteps := 5000000) (implicitDefEqProofs := false) only [ruA, ruB, aEv, ASt.get, aget, ASt.put, aBox, aCells, oneC, oneCL, Value.oneCell', envOf, ↓reduceIte, Nat.reduceLT, Nat.reduceEqDiff, Nat.reduceAdd, eq_self] | (with_reducible refine aIf_split (fun _ => ?_) (fun _ => ?_)) | (with_reducible refine aSel_split (fun _ => ?_) (fun _ => ?_)) | (with_reducible refine aGd_split (fun _ => ?_) (fun _ => ?_))))
  unfold anyM
  obtain ⟨f, hf⟩ : ∃ f : Nat → Bool, f = fun e : Nat => anyN (fun u => enabledM m s (e : Int) (u : Int)) m.users.length := ⟨_, rfl⟩
  rw [← hf]
  refine aLoop_of (fun st => ∃ k : Nat, k ≤ m.events.length ∧ anyN f k = false ∧ st = ⟨19, [(2, .op 0 0 0), (3, .op 1 0 0), (5, eI (k : Int))], [(0, some (.box 32 (eMod m))), (1, some (.box 47 (eSt s)))], 2⟩) (fun st => m.events.length - slotN st 5) ⟨_, (weak_cut1 (by (first | ((simp only [envIn, tabIn, envLt, tabLt, AObj.lt, AV.lt, AV.ltL, ruW, ASt.get, aget, ↓reduceIte, reduceCtorEq, Nat.reduceLT, Nat.reduceEqDiff, eq_self]) <;> (repeat' apply And.intro) <;> first | (rw [wrapK (by omega)]; done) | (simp; done) | omega) | fail))), 0, Nat.zero_le _, rfl, rfl⟩ ?_
  rintro _ ⟨k, hk, hI, rfl⟩
  by_cases hlt : k < m.events.length
  · have hef : decide (0 < ((whoM m s (k : Int)).length : Int)) = f k := by rw [hf]; exact filtN_pos _ _
    (repeat' (first | simp (maxSteps := 5000000) (implicitDefEqProofs := false) only [ruA, ruB, aEv, aTake, aLoad, aField, aLen, aBin, bin2, ASt.get, aget, ASt.put, aResL, aOne, ↓reduceIte, reduceCtorEq, Nat.reduceLT, Nat.reduceEqDiff, Nat.reduceAdd, Nat.reduceLeDiff, eq_self, ne_eq, tyF_32_5, tyA_26, tyS_26, tyE_26, tyA_32, tyS_32, tyA_47, tyS_47, tyE_45, hlt] | (with_reducible refine aIf_split (fun _ => ?_) (fun _ => ?_)) | (with_reducible refine aSel_split (fun _ => ?_) (fun _ => ?_)) | (with_reducible refine aGd_split (fun _ => ?_) (fun _ => ?_)) | (with_reducible refine aDraw_quiet (by kernel_rfl) ?_) | ((with_reducible apply callO (g := 43)); exact (whoR_A m s (k : Int) hl hl2 hl3 ho hd hr hdid); exact (.inr ints_plain))))
    all_goals rename_i h
    all_goals simp only [hef] at h
    · symm
      exact anyN_yes hlt h
    · exact roundI (weak_cut1 (by (first | ((simp only [envIn, tabIn, envLt, tabLt, AObj.lt, AV.lt, AV.ltL, ruW, ASt.get, aget, ↓reduceIte, reduceCtorEq, Nat.reduceLT, Nat.reduceEqDiff, eq_self]) <;> (repeat' apply And.intro) <;> first | (rw [wrapK (by omega)]; done) | (simp; done) | omega) | fail))) ⟨k + 1, by omega, anyN_step hI h, rfl⟩ (by simp only [slotN, ASt.get, aget, ↓reduceIte, Nat.reduceLT, Nat.reduceEqDiff, eq_self]; omega)
  · obtain rfl : k = m.events.length := by omega
    (repeat' (first | simp (maxSteps := 5000000) (implicitDefEqProofs := false) only [ruA, ruB, aEv, aTake, aLoad, aField, aLen, aBin, bin2, ASt.get, aget, ASt.put, aResL, aOne, ↓reduceIte, reduceCtorEq, Nat.reduceLT, Nat.reduceEqDiff, Nat.reduceAdd, Nat.reduceLeDiff, eq_self, ne_eq, tyF_32_5, tyA_26, tyS_26, tyE_26, hlt] | (with_reducible refine aIf_split (fun _ => ?_) (fun _ => ?_)) | (with_reducible refine aSel_split (fun _ => ?_) (fun _ => ?_)) | (with_reducible refine aGd_split (fun _ => ?_) (fun _ => ?_)) | (with_reducible refine aDraw_quiet (by kernel_rfl) ?_)))
    exact hI.symm
end
section
open Go.RowKit
theorem firstI_nat (n : Nat) : firstI (n : Int) = ((2 ^ (min n 31) - 1 : Nat) : Int) := by
  have h1 : (max 0 (min (n : Int) 31)).toNat = min n 31 := by omega
  have h2 : 0 < 2 ^ (min n 31) := Nat.two_pow_pos _
  unfold firstI
  rw [h1]
  generalize min n 31 = k at *
  have : ((2 ^ k : Nat) : Int) = (2 : Int) ^ k := by simp
  omega
theorem ofB_bits (s : Int) (n : Nat) (hs : 0 ≤ s ∧ s < 2147483648) : ofB s (n : Int) = true ↔ ∀ i : Nat, n ≤ i → i < 31 → hasB s (i : Int) = false := by
  obtain ⟨q, rfl⟩ : ∃ q : Nat, s = (q : Int) := ⟨s.toNat, by omega⟩
  have hq : q < 2 ^ 31 := by omega
  have hl : low (q : Int) = q := by
    simp only [low]
    omega
  unfold ofB
  rw [firstI_nat]
  have h2 : 0 < 2 ^ (min n 31) := Nat.two_pow_pos _
  constructor
  · intro h i h3 h4
    simp at h
    have hlt : q < 2 ^ (min n 31) := by omega
    rw [hasB_low _ _ h4, hl]
    refine Nat.testBit_lt_two_pow (Nat.lt_of_lt_of_le hlt ?_)
    exact Nat.pow_le_pow_right (by omega) (by omega)
  · intro h
    have hlt : q < 2 ^ (min n 31) := by
      refine Nat.lt_pow_two_of_testBit _ fun i hi => ?_
      by_cases h31 : i < 31
      · have := h i (by omega) h31
        rwa [hasB_low _ _ h31, hl] at this
      · refine Nat.testBit_lt_two_pow (Nat.lt_of_lt_of_le hq ?_)
        exact Nat.pow_le_pow_right (by omega) (by omega)
    simp
    omega
theorem firstI_31 (n : Nat) : firstI (n : Int) < 2147483648 := by
  rw [firstI_nat]
  have : 2 ^ (min n 31) ≤ 2 ^ 31 := Nat.pow_le_pow_right (by omega) (by omega)
  have h2 : 0 < 2 ^ (min n 31) := Nat.two_pow_pos _
  omega
theorem ofB_31 {s : Int} {n : Nat} (h : ofB s (n : Int) = true) : in31 s := by
  unfold ofB at h
  simp at h
  have := firstI_31 n
  unfold in31
  omega
set_option maxRecDepth 100000 in
theorem within_A (s : Int) (n : Nat) (hs : ok64 s) : ADet Tryz.prog 42 [eI s, eI (n : Int)] (val (.bool (ofB s (n : Int)))) := by
  refine adet_of_code mixedT Tryz.func42 rfl (by decide) Tryz.ntmps42 Tryz.results42 rfl (val_ok _) ?_
  (repeat' (first | simp (maxSteps := 5000000) (implicitDefEqProofs := false) only [ruA, ruB, aEv, ASt.put, envOf] | (with_reducible refine aIf_split (fun _ => ?_) (fun _ => ?_)) | (with_reducible refine aSel_split (fun _ => ?_) (fun _ => ?_)) | (with_reducible refine aGd_split (fun _ => ?_) (fun _ => ?_))))
  refine aLoop_of (fun st => ∃ k : Nat, k ≤ 31 ∧ (∀ i : Nat, n ≤ i → i < k → hasB s (i : Int) = false) ∧ st = ⟨24, [(0, eI s), (1, eI (n : Int)), (5, eI (k : Int))], [], 0⟩) (fun st => 31 - slotN st 5) ⟨_, (weak_cut1 (by (first | ((simp only [envIn, tabIn, envLt, tabLt, AV.lt, ruW, ASt.get, aget, ↓reduceIte, reduceCtorEq, Nat.reduceLT, Nat.reduceEqDiff, eq_self]) <;> (repeat' apply And.intro) <;> first | (rw [wrapK (by omega)]; done) | (simp; done) | omega) | fail))), 0, Nat.zero_le _, by simp, rfl⟩ ?_
  rintro _ ⟨k, hk, hI, rfl⟩
  by_cases hlt : k < 31
  · have h31 : (k : Int) < 31 := by omega
    (repeat' (first | simp (maxSteps := 5000000) (implicitDefEqProofs := false) only [ruA, ruB, aEv, aBin, bin2, ASt.get, aget, ASt.put, aResL, aOne, ↓reduceIte, reduceCtorEq, Nat.reduceLT, Nat.reduceEqDiff, eq_self, h31] | (with_reducible refine aIf_split (fun _ => ?_) (fun _ => ?_)) | (with_reducible refine aSel_split (fun _ => ?_) (fun _ => ?_)) | (with_reducible refine aGd_split (fun _ => ?_) (fun _ => ?_)) | (with_reducible refine aDraw_quiet (by kernel_rfl) ?_) | ((with_reducible apply callV (g := 48)); exact (hasR_A _ _ hs)) | ((with_reducible apply callD (g := 48)); exact (hasR_A _ _ hs))))
    all_goals first
      | (rename_i h1 h2
         simp at h1
         symm
         rw [Bool.eq_false_iff]
         intro hof
         have := (ofB_bits s n (ofB_31 hof)).1 hof k (by omega) hlt
         rw [this] at h2
         cases h2)
      | (rename_i h1 h2
         simp at h1
         refine roundI (weak_cut1 (by (first | ((simp only [envIn, tabIn, envLt, tabLt, AV.lt, ruW, ASt.get, aget, ↓reduceIte, reduceCtorEq, Nat.reduceLT, Nat.reduceEqDiff, eq_self]) <;> (repeat' apply And.intro) <;> first | (rw [wrapK (by omega)]; done) | (simp; done) | omega) | fail))) ⟨k + 1, by omega, fun i hi hi2 => ?_, rfl⟩ (by simp only [slotN, ruW, ASt.get, aget, ↓reduceIte, Nat.reduceLT, Nat.reduceEqDiff, eq_self]; omega)
         rcases Nat.lt_or_ge i k with h3 | h3
         · exact hI i hi h3
         · obtain rfl : i = k := by omega
           exact h2)
      | (rename_i h1
         simp at h1
         refine roundI (weak_cut1 (by (first | ((simp only [envIn, tabIn, envLt, tabLt, AV.lt, ruW, ASt.get, aget, ↓reduceIte, reduceCtorEq, Nat.reduceLT, Nat.reduceEqDiff, eq_self]) <;> (repeat' apply And.intro) <;> first | (rw [wrapK (by omega)]; done) | (simp; done) | omega) | fail))) ⟨k + 1, by omega, fun i hi hi2 => ?_, rfl⟩ (by simp only [slotN, ruW, ASt.get, aget, ↓reduceIte, Nat.reduceLT, Nat.reduceEqDiff, eq_self]; omega)
         exact hI i hi (by omega))
      | trace_state
  · obtain rfl : k = 31 := by omega
    have h31 : (((31 : Nat) : Int) < 31) = False := by simp
    (repeat' (first | simp (maxSteps := 5000000) (implicitDefEqProofs := false) only [ruA, ruB, aEv, aBin, bin2, ASt.get, aget, ASt.put, aResL, aOne, ↓reduceIte, reduceCtorEq, Nat.reduceLT, Nat.reduceEqDiff, eq_self, h31] | (with_reducible refine aIf_split (fun _ => ?_) (fun _ => ?_)) | (with_reducible refine aSel_split (fun _ => ?_) (fun _ => ?_)) | (with_reducible refine aGd_split (fun _ => ?_) (fun _ => ?_)) | (with_reducible refine aDraw_quiet (by kernel_rfl) ?_)))
    · rename_i h1
      simp at h1
      by_cases h2 : s ≤ 2147483647
      · rw [(ofB_bits s n ⟨h1, by omega⟩).2 hI]
        simp [h2]
      · have h3 : ofB s (n : Int) = false := by
          rw [Bool.eq_false_iff]
          intro hof
          have := ofB_31 hof
          unfold in31 at this
          omega
        rw [h3]
        simp [h2]
    · rename_i h1
      simp at h1
      symm
      rw [Bool.eq_false_iff]
      intro hof
      have := ofB_31 hof
      unfold in31 at this
      omega
set_option maxRecDepth 100000 in
set_option maxHeartbeats 8000000 in
theorem checkR_A (m : Mod) (s : St) (hl : m.events.length ≤ 1000000) (ho : ok64 s.opn) (hd : ok64 s.don) (hdid : ∀ x ∈ s.did, ok64 x) : ADet Tryz.prog 30 [.agg (eMod m), .agg (eSt s)] (val (.bool (chkS m s))) := by
  refine adet_of_code mixedT Tryz.func30 rfl (by decide) Tryz.ntmps30 Tryz.results30 rfl (val_ok _) ?_
  by_cases hsz : s.vals.length = m.attrs.length ∧ s.did.length = m.events.length ∧ s.cnt.length = m.events.length
  · obtain ⟨h1, h2, h3⟩ := hsz
    have n1 : (((s.vals.length : Nat) : Int) != ((m.attrs.length : Nat) : Int)) = false := by simp [h1]
    have n2 : (((s.did.length : Nat) : Int) != ((m.events.length : Nat) : Int)) = false := by simp [h2]
    have n3 : (((s.cnt.length : Nat) : Int) != ((m.events.length : Nat) : Int)) = false := by simp [h3]
    have hall : chkS m s = (ofB s.opn m.stages.length && ofB s.don m.miles.length && allN (chkAt m s) m.events.length) := by simp [chkS, h1, h2, h3]
    rw [hall]
    obtain ⟨f, hf⟩ : ∃ f, f = chkAt m s := ⟨_, rfl⟩
    rw [← hf]
    have e0 : allN f 0 = true := rfl
    have loop : ∀ (b0 : Bool) (k : Nat), k < m.events.length → ∀ b, (b0 && allN f k) = b → (b0 && allN f (k + 1)) = (b && f k) := fun b0 k hk b hb => by
      rw [← hb]
      simp [allN, Bool.and_assoc]
    (repeat' (first | simp (maxSteps := 5000000) (implicitDefEqProofs := false) only [ruA, ruB, aEv, aTake, aLoad, aField, aLen, aBin, bin2, ASt.get, aget, ASt.put, aBox, aCells, oneC, oneCL, Value.oneCell', envOf, ↓reduceIte, reduceCtorEq, Nat.reduceLT, Nat.reduceEqDiff, Nat.reduceAdd, Nat.reduceLeDiff, eq_self, ne_eq, tyF_32_5, tyA_26, tyS_26, tyE_26, tyF_47_0, tyA_23, tyS_23, tyE_23, tyF_32_0, tyA_22, tyS_22, tyE_22, tyF_47_3, tyA_45, tyS_45, tyE_45, tyF_47_4, tyF_47_1, tyA_3, tyS_3, tyF_32_4, tyA_25, tyS_25, tyE_25, tyF_47_2, tyF_32_7, tyA_28, tyS_28, tyE_28, n1, n2, n3] | (with_reducible refine aIf_split (fun _ => ?_) (fun _ => ?_)) | (with_reducible refine aSel_split (fun _ => ?_) (fun _ => ?_)) | (with_reducible refine aGd_split (fun _ => ?_) (fun _ => ?_)) | (with_reducible refine aDraw_quiet (by kernel_rfl) ?_) | ((with_reducible apply callV (g := 42)); exact (within_A _ _ ho)) | ((with_reducible apply callD (g := 42)); exact (within_A _ _ ho)) | ((with_reducible apply callV (g := 42)); exact (within_A _ _ hd)) | ((with_reducible apply callD (g := 42)); exact (within_A _ _ hd))))
    · rename_i h
      rw [h, Bool.true_and]
      obtain ⟨b0, hb0⟩ : ∃ b, ofB s.don m.miles.length = b := ⟨_, rfl⟩
      rw [hb0]
      refine aLoop_of (fun st => ∃ k : Nat, k ≤ m.events.length ∧ st = ⟨86, [(2, .op 0 0 0), (3, .op 1 0 0), (5, eI (m.events.length : Int)), (6, eB (b0 && allN f k)), (7, eI (k : Int))], [(0, some (.box 32 (eMod m))), (1, some (.box 47 (eSt s)))], 2⟩) (fun st => m.events.length - slotN st 7) ⟨_, (weak_cut1 (by (first | ((simp only [envIn, tabIn, envLt, tabLt, AObj.lt, AV.lt, AV.ltL, ruW, ASt.get, aget, ↓reduceIte, reduceCtorEq, Nat.reduceLT, Nat.reduceEqDiff, eq_self, e0, Bool.and_true]) <;> (repeat' apply And.intro) <;> first | (rw [wrapK (by omega)]; done) | (simp; done) | omega) | fail))), 0, Nat.zero_le _, rfl⟩ ?_
      rintro _ ⟨k, hk, rfl⟩
      by_cases hlt : k < m.events.length
      · have hd' : k < s.did.length := by omega
        have hc : k < s.cnt.length := by omega
        have eF : f k = (ofB s.did[k] m.users.length && decide (0 ≤ s.cnt[k]) && decide (s.cnt[k] ≤ m.events[k].times)) := by rw [hf]; simp [chkAt, hd', hc, hlt]
        have hs := loop b0 k hlt
        obtain ⟨b, hb⟩ : ∃ b, (b0 && allN f k) = b := ⟨_, rfl⟩
        have hs := hs b hb
        rw [hb]
        (repeat' (first | simp (maxSteps := 5000000) (implicitDefEqProofs := false) only [ruA, ruB, aEv, aTake, aLoad, aField, aIndex, aLen, aBin, bin2, ASt.get, aget, ASt.put, ↓reduceIte, reduceCtorEq, Nat.reduceLT, Nat.reduceEqDiff, Nat.reduceAdd, Nat.reduceLeDiff, eq_self, ne_eq, dref, tyF_32_5, tyA_26, tyS_26, tyE_26, tyA_22, tyS_22, tyE_22, tyF_47_3, tyA_45, tyS_45, tyE_45, tyF_47_4, tyA_3, tyS_3, tyF_32_2, tyF_61_4, row_at, hlt, hd', hc] | (with_reducible refine aIf_split (fun _ => ?_) (fun _ => ?_)) | (with_reducible refine aSel_split (fun _ => ?_) (fun _ => ?_)) | (with_reducible refine aGd_split (fun _ => ?_) (fun _ => ?_)) | (with_reducible refine aDraw_quiet (by kernel_rfl) ?_) | ((with_reducible apply callV (g := 42)); exact (within_A _ _ (hdid _ (List.getElem_mem hd')))) | ((with_reducible apply callD (g := 42)); exact (within_A _ _ (hdid _ (List.getElem_mem hd'))))))
        · have hv : (b0 && allN f (k + 1)) = decide (s.cnt[k] ≤ m.events[k].times) := by grind
          exact roundI (weak_cut1 (by (first | ((simp only [envIn, tabIn, envLt, tabLt, AObj.lt, AV.lt, AV.ltL, ruW, ASt.get, aget, ↓reduceIte, Nat.reduceLT, Nat.reduceEqDiff, eq_self, hv]) <;> (repeat' apply And.intro) <;> first | (rw [wrapK (by omega)]; done) | (simp; done) | omega) | fail))) ⟨k + 1, by omega, rfl⟩ (by simp only [slotN, ruW, ASt.get, aget, ↓reduceIte, Nat.reduceLT, Nat.reduceEqDiff, eq_self]; omega)
        all_goals
          have hv : (b0 && allN f (k + 1)) = false := by grind
          exact roundI (weak_cut1 (by (first | ((simp only [envIn, tabIn, envLt, tabLt, AObj.lt, AV.lt, AV.ltL, ruW, ASt.get, aget, ↓reduceIte, Nat.reduceLT, Nat.reduceEqDiff, eq_self, hv]) <;> (repeat' apply And.intro) <;> first | (rw [wrapK (by omega)]; done) | (simp; done) | omega) | fail))) ⟨k + 1, by omega, rfl⟩ (by simp only [slotN, ruW, ASt.get, aget, ↓reduceIte, Nat.reduceLT, Nat.reduceEqDiff, eq_self]; omega)
      · obtain rfl : k = m.events.length := by omega
        (repeat' (first | simp (maxSteps := 5000000) (implicitDefEqProofs := false) only [ruA, ruB, aEv, aBin, bin2, ASt.get, aget, ASt.put, aResL, aOne, ↓reduceIte, Nat.reduceLT, Nat.reduceEqDiff, eq_self, hlt] | (with_reducible refine aIf_split (fun _ => ?_) (fun _ => ?_)) | (with_reducible refine aSel_split (fun _ => ?_) (fun _ => ?_)) | (with_reducible refine aGd_split (fun _ => ?_) (fun _ => ?_)) | (with_reducible refine aDraw_quiet (by kernel_rfl) ?_)))
    · rename_i h
      rw [h]
      refine aLoop_of (fun st => ∃ k : Nat, k ≤ m.events.length ∧ st = ⟨86, [(2, .op 0 0 0), (3, .op 1 0 0), (5, eI (m.events.length : Int)), (6, eB false), (7, eI (k : Int))], [(0, some (.box 32 (eMod m))), (1, some (.box 47 (eSt s)))], 2⟩) (fun st => m.events.length - slotN st 7) ⟨_, (weak_cut1 (by (first | ((simp only [envIn, tabIn, envLt, tabLt, AObj.lt, AV.lt, AV.ltL, ruW, ASt.get, aget, ↓reduceIte, reduceCtorEq, Nat.reduceLT, Nat.reduceEqDiff, eq_self]) <;> (repeat' apply And.intro) <;> first | (rw [wrapK (by omega)]; done) | (simp; done) | omega) | fail))), 0, Nat.zero_le _, rfl⟩ ?_
      rintro _ ⟨k, hk, rfl⟩
      by_cases hlt : k < m.events.length
      · (repeat' (first | simp (maxSteps := 5000000) (implicitDefEqProofs := false) only [ruA, ruB, aEv, aBin, bin2, ASt.get, aget, ASt.put, ↓reduceIte, Nat.reduceLT, Nat.reduceEqDiff, eq_self, hlt] | (with_reducible refine aIf_split (fun _ => ?_) (fun _ => ?_)) | (with_reducible refine aSel_split (fun _ => ?_) (fun _ => ?_)) | (with_reducible refine aGd_split (fun _ => ?_) (fun _ => ?_)) | (with_reducible refine aDraw_quiet (by kernel_rfl) ?_)))
        all_goals first
          | exact roundI (weak_cut1 (by (first | ((simp only [envIn, tabIn, envLt, tabLt, AObj.lt, AV.lt, AV.ltL, ruW, ASt.get, aget, ↓reduceIte, Nat.reduceLT, Nat.reduceEqDiff, eq_self]) <;> (repeat' apply And.intro) <;> first | (rw [wrapK (by omega)]; done) | (simp; done) | omega) | fail))) ⟨k + 1, by omega, rfl⟩ (by simp only [slotN, ruW, ASt.get, aget, ↓reduceIte, Nat.reduceLT, Nat.reduceEqDiff, eq_self]; omega)
          | trace_state
      · obtain rfl : k = m.events.length := by omega
        (repeat' (first | simp (maxSteps := 5000000) (implicitDefEqProofs := false) only [ruA, ruB, aEv, aBin, bin2, ASt.get, aget, ASt.put, aResL, aOne, ↓reduceIte, Nat.reduceLT, Nat.reduceEqDiff, eq_self, hlt] | (with_reducible refine aIf_split (fun _ => ?_) (fun _ => ?_)) | (with_reducible refine aSel_split (fun _ => ?_) (fun _ => ?_)) | (with_reducible refine aGd_split (fun _ => ?_) (fun _ => ?_)) | (with_reducible refine aDraw_quiet (by kernel_rfl) ?_)))
        simp
  · have hall : chkS m s = false := by
      unfold chkS
      rw [Bool.eq_false_iff]
      simp only [ne_eq, Bool.and_eq_true, decide_eq_true_eq]
      grind
    rw [hall]
    (repeat' (first | simp (maxSteps := 5000000) (implicitDefEqProofs := false) only [ruA, ruB, aEv, aTake, aLoad, aField, aLen, aBin, bin2, ASt.get, aget, ASt.put, aBox, aCells, oneC, oneCL, Value.oneCell', envOf, aResL, aOne, ↓reduceIte, reduceCtorEq, Nat.reduceLT, Nat.reduceEqDiff, Nat.reduceAdd, Nat.reduceLeDiff, eq_self, ne_eq, tyF_32_5, tyA_26, tyS_26, tyE_26, tyF_47_0, tyA_23, tyS_23, tyE_23, tyF_32_0, tyA_22, tyS_22, tyE_22, tyF_47_3, tyA_45, tyS_45, tyE_45, tyF_47_4, tyF_47_1, tyA_3, tyS_3, tyF_32_4, tyA_25, tyS_25, tyE_25] | (with_reducible refine aIf_split (fun _ => ?_) (fun _ => ?_)) | (with_reducible refine aSel_split (fun _ => ?_) (fun _ => ?_)) | (with_reducible refine aGd_split (fun _ => ?_) (fun _ => ?_)) | (with_reducible refine aDraw_quiet (by kernel_rfl) ?_)))
    all_goals first
      | rfl
      | (exfalso; grind)
      | trace_state
end
section
open Go.RowKit
theorem idleR_A (v : Mv) : ADet Tryz.prog 21 [.agg (eMv v)] (val (.bool (idleM v))) := by
  refine adet_of_code mixedT Tryz.func21 rfl (by decide) Tryz.ntmps21 Tryz.results21 rfl (val_ok _) ?_
  unfold idleM
  (repeat' (first | simp (maxSteps := 5000000) (implicitDefEqProofs := false) only [ruA, ruB, aEv, aTake, aLoad, aField, aLen, aBin, bin2, ASt.get, aget, ASt.put, aBox, aCells, oneC, oneCL, Value.oneCell', envOf, aResL, aOne, ↓reduceIte, reduceCtorEq, Nat.reduceLT, Nat.reduceEqDiff, Nat.reduceAdd, Nat.reduceLeDiff, eq_self, ne_eq, tyF_51_0, tyA_3, tyS_3, tyF_51_1, tyF_51_2, tyA_23, tyS_23, tyE_23] | (with_reducible refine aIf_split (fun _ => ?_) (fun _ => ?_)) | (with_reducible refine aSel_split (fun _ => ?_) (fun _ => ?_)) | (with_reducible refine aGd_split (fun _ => ?_) (fun _ => ?_))))
  all_goals grind
theorem take_snocI (l : List Int) {k : Nat} (h : k < l.length) : ((l.take (k + 1)).map fun n => [eI n]) = ((l.take k).map fun n => [eI n]) ++ [[eI l[k]]] := take_snoc (fun n => [eI n]) l h
theorem setVals_at (sets mv vals : List Int) (i : Nat) (hi : i < vals.length) (k : Nat) (hk : k < sets.length) (hm : k < mv.length) :
    (setVals sets mv vals (k + 1))[i]'(by rw [setVals_len]; exact hi) = if sets[k] = (i : Int) then mv[k] else (setVals sets mv vals k)[i]'(by rw [setVals_len]; exact hi) := by
  have e : setVals sets mv vals (k + 1) = if 0 ≤ sets[k] ∧ sets[k] < ((setVals sets mv vals k).length : Int) then (setVals sets mv vals k).set (sets[k]).toNat mv[k] else setVals sets mv vals k := by
    rw [setVals]
    simp only [List.getD_eq_getElem?_getD, List.getElem?_eq_getElem hk, List.getElem?_eq_getElem hm, Option.getD_some]
  have hl := setVals_len sets mv vals k
  simp only [e]
  by_cases h : sets[k] = (i : Int)
  · rw [if_pos h]
    have h2 : 0 ≤ sets[k] ∧ sets[k] < ((setVals sets mv vals k).length : Int) := by omega
    simp only [if_pos h2]
    rw [List.getElem_set, if_pos (by omega)]
  · rw [if_neg h]
    by_cases h2 : 0 ≤ sets[k] ∧ sets[k] < ((setVals sets mv vals k).length : Int)
    · simp only [if_pos h2]
      rw [List.getElem_set_ne (by omega)]
    · simp only [if_neg h2]
set_option maxRecDepth 100000 in
set_option maxHeartbeats 8000000 in
theorem take19_A (m : Mod) (s : St) (v : Mv) (e : Nat) (x : Ev) (he : v.event = (e : Int)) (hlt : e < m.events.length) (hx : m.events[e] = x) (hd : e < s.did.length) (hc : e < s.cnt.length) (hv : x.sets.length = v.vals.length) (hu : 0 ≤ v.user ∧ v.user < 31) (hdid : ok64 s.did[e]) (hce : s.cnt.length = m.events.length)
    (hl1 : s.vals.length ≤ 1000000) (hl2 : s.did.length ≤ 1000000) (hl3 : s.cnt.length ≤ 1000000) (hl4 : x.sets.length ≤ 1000000) (hw : 0 < x.times → -9223372036854775808 ≤ s.cnt[e] ∧ s.cnt[e] < 9223372036854775807) :
    ADet Tryz.prog 23 [.agg (eMod m), .agg (eSt s), .agg (eMv v)] ⟨.agg (eSt (takeM m s v)), [], 0⟩ := by
  obtain ⟨ve, vu, vv⟩ := v
  simp only at he hv hu
  subst he
  have ee : evAt m (e : Int) = some x := by simp [evAt, hlt, hx]
  have et : takeM m s ⟨(e : Int), vu, vv⟩ = ⟨setVals x.sets vv s.vals x.sets.length, s.opn, s.don, s.did.set e (withB s.did[e] vu), if 0 < x.times then s.cnt.set e (s.cnt[e] + 1) else s.cnt⟩ := by
    unfold takeM
    simp only [ee, Int.toNat_natCast, List.getD_eq_getElem?_getD, List.getElem?_eq_getElem hd, List.getElem?_eq_getElem hc, Option.getD_some]
  rw [et]
  obtain ⟨V, hV⟩ : ∃ V, setVals x.sets vv s.vals x.sets.length = V := ⟨_, rfl⟩
  obtain ⟨D, hD⟩ : ∃ D, s.did.set e (withB s.did[e] vu) = D := ⟨_, rfl⟩
  obtain ⟨C, hC⟩ : ∃ C, (if 0 < x.times then s.cnt.set e (s.cnt[e] + 1) else s.cnt) = C := ⟨_, rfl⟩
  have hVl : V.length = s.vals.length := by rw [← hV, setVals_len]
  have hDl : D.length = s.did.length := by rw [← hD, List.length_set]
  have hCl : C.length = s.cnt.length := by rw [← hC]; split <;> simp
  rw [hV, hD, hC]
  refine ADet.still (R := ⟨.agg [.osl 0, eI s.opn, eI s.don, .osl 1, .osl 2], [(0, some (.row 2 1 (V.map fun n => [eI n]))), (1, some (.row 3 1 (D.map fun n => [eI n]))), (2, some (.row 3 1 (C.map fun n => [eI n])))], 3⟩) [0, 1, 2] ?_ ?_ (by simp [AV.lt, AV.ltL])
  · refine adet_of_code mixedT Tryz.func23 rfl (by decide) Tryz.ntmps23 Tryz.results23 rfl (tab_ok (by simp [tabLt, AObj.lt]) (by simp [AV.lt, AV.ltL])) ?_
    (repeat' (first | simp (maxSteps := 5000000) (implicitDefEqProofs := false) only [ruA, ruB, aEv, aTake, aLoad, aField, ASt.get, aget, ASt.put, aStore, aBox, aBuild, aFill, oneParts, aCells, oneC, oneCL, Value.cells, Value.oneCell', envOf, ↓reduceIte, reduceCtorEq, Nat.reduceLT, Nat.reduceEqDiff, Nat.reduceAdd, Nat.reduceLeDiff, eq_self, tyS_47, tyZ_47, tyF_47_1, tyA_3, tyS_3, tyF_47_2, tyB_47] | (with_reducible refine aIf_split (fun _ => ?_) (fun _ => ?_)) | (with_reducible refine aSel_split (fun _ => ?_) (fun _ => ?_)) | (with_reducible refine aGd_split (fun _ => ?_) (fun _ => ?_))))
    refine aLoop_of (fun st' => ∃ i : Nat, i ≤ s.vals.length ∧ st' = ⟨134, [(3, .op 0 0 0), (4, .op 1 0 0), (5, .op 2 0 0), (6, .op 3 0 0), (7, .op 4 0 0), (8, eI (i : Int))], [(0, some (.box 32 (eMod m))), (1, some (.box 47 (eSt s))), (2, some (.box 51 [eI (e : Int), eI vu, sI vv])), (3, some (.box 47 [.c (.slice none 0 0), eI 0, eI 0, .c (.slice none 0 0), .c (.slice none 0 0)])), (4, some (.box 47 [.osl 5, eI s.opn, eI s.don, .c (.slice none 0 0), .c (.slice none 0 0)])), (5, some (.row 2 1 ((V.take i).map fun n => [eI n])))], 6⟩) (fun st' => s.vals.length - slotN st' 8)
      ⟨_, (weak_nilbox 4 0 2 1 (t := 47) (cells := [.c (.slice none 0 0), eI s.opn, eI s.don, .c (.slice none 0 0), .c (.slice none 0 0)]) (by simp [ATab.get_cons]) rfl).trans (weak_cut1 (by (first | ((simp only [envIn, tabIn, envLt, tabLt, AObj.lt, AV.lt, AV.ltL, ruW, ASt.get, aget, ↓reduceIte, reduceCtorEq, Nat.reduceLT, Nat.reduceEqDiff, eq_self, List.set_cons_zero, List.take_zero]) <;> (repeat' apply And.intro) <;> first | (rw [wrapK (by omega)]; done) | (simp; done) | omega) | fail))), 0, Nat.zero_le _, rfl⟩ ?_
    rintro _ ⟨i, hi, rfl⟩
    by_cases hi2 : i < s.vals.length
    · (repeat' (first | simp (maxSteps := 5000000) (implicitDefEqProofs := false) only [ruA, ruB, aEv, aTake, aLoad, aField, aIndex, aLen, aBin, bin2, ASt.get, aget, ASt.put, ↓reduceIte, reduceCtorEq, Nat.reduceLT, Nat.reduceEqDiff, Nat.reduceAdd, Nat.reduceLeDiff, eq_self, ne_eq, tyF_47_0, tyA_23, tyS_23, tyE_23, tyA_2, tyS_2, row_at, hi2] | (with_reducible refine aIf_split (fun _ => ?_) (fun _ => ?_)) | (with_reducible refine aSel_split (fun _ => ?_) (fun _ => ?_)) | (with_reducible refine aGd_split (fun _ => ?_) (fun _ => ?_))))
      have hVi : i < V.length := by omega
      have hg : ∀ k, i < (setVals x.sets vv s.vals k).length := fun k => by rw [setVals_len]; exact hi2
      have e0 : (setVals x.sets vv s.vals 0)[i]'(hg 0) = s.vals[i] := rfl
      refine aLoop_of (fun st' => ∃ k : Nat, k ≤ x.sets.length ∧ ∃ n, n = (setVals x.sets vv s.vals k)[i]'(hg k) ∧ st' = ⟨134, [(3, .op 0 0 0), (4, .op 1 0 0), (5, .op 2 0 0), (6, .op 3 0 0), (7, .op 4 0 0), (8, eI (i : Int)), (9, eI n), (10, eI (k : Int))], [(0, some (.box 32 (eMod m))), (1, some (.box 47 (eSt s))), (2, some (.box 51 [eI (e : Int), eI vu, sI vv])), (3, some (.box 47 [.c (.slice none 0 0), eI 0, eI 0, .c (.slice none 0 0), .c (.slice none 0 0)])), (4, some (.box 47 [.osl 5, eI s.opn, eI s.don, .c (.slice none 0 0), .c (.slice none 0 0)])), (5, some (.row 2 1 ((V.take i).map fun n => [eI n])))], 6⟩) (fun st' => x.sets.length - slotN st' 10) ⟨_, (weak_cut1 (by (first | ((simp only [envIn, tabIn, envLt, tabLt, AObj.lt, AV.lt, AV.ltL, ruW, ASt.get, aget, ↓reduceIte, Nat.reduceLT, Nat.reduceEqDiff, eq_self]) <;> (repeat' apply And.intro) <;> first | (rw [wrapK (by omega)]; done) | (simp; done) | omega) | fail))), 0, Nat.zero_le _, _, e0.symm, rfl⟩ ?_
      rintro _ ⟨k, hk, n, hn, rfl⟩
      by_cases hk2 : k < x.sets.length
      · have hkv : k < vv.length := by omega
        obtain ⟨a, ha⟩ : ∃ a, x.sets[k] = a := ⟨_, rfl⟩
        have hst := setVals_at x.sets vv s.vals i hi2 k hk2 hkv
        rw [← hn, ha] at hst
        (repeat' (first | simp (maxSteps := 5000000) (implicitDefEqProofs := false) only [ruA, ruB, aEv, aTake, aLoad, aField, aIndex, aLen, aBin, bin2, ASt.get, aget, ASt.put, ↓reduceIte, reduceCtorEq, Nat.reduceLT, Nat.reduceEqDiff, Nat.reduceAdd, Nat.reduceLeDiff, eq_self, ne_eq, tyA_3, tyS_3, tyA_23, tyS_23, tyE_23, tyA_2, tyS_2, tyF_51_2, tyF_32_5, tyA_26, tyS_26, tyF_51_0, tyE_26, tyF_61_3, tyA_45, tyS_45, tyE_45, row_at, hlt, hx, hk2, hkv, ha] | (with_reducible refine aIf_split (fun _ => ?_) (fun _ => ?_)) | (with_reducible refine aSel_split (fun _ => ?_) (fun _ => ?_)) | (with_reducible refine aGd_split (fun _ => ?_) (fun _ => ?_))))
        · rename_i h
          simp at h
          refine roundI (weak_cut1 (by (first | ((simp only [envIn, tabIn, envLt, tabLt, AObj.lt, AV.lt, AV.ltL, ruW, ASt.get, aget, ↓reduceIte, Nat.reduceLT, Nat.reduceEqDiff, eq_self]) <;> (repeat' apply And.intro) <;> first | (rw [wrapK (by omega)]; done) | (simp; done) | omega) | fail))) ⟨k + 1, by omega, vv[k], ?_, rfl⟩ (by simp only [slotN, ruW, ASt.get, aget, ↓reduceIte, Nat.reduceLT, Nat.reduceEqDiff, eq_self]; omega)
          rw [hst, if_pos h]
        · rename_i h
          simp at h
          refine roundI (weak_cut1 (by (first | ((simp only [envIn, tabIn, envLt, tabLt, AObj.lt, AV.lt, AV.ltL, ruW, ASt.get, aget, ↓reduceIte, Nat.reduceLT, Nat.reduceEqDiff, eq_self]) <;> (repeat' apply And.intro) <;> first | (rw [wrapK (by omega)]; done) | (simp; done) | omega) | fail))) ⟨k + 1, by omega, n, ?_, rfl⟩ (by simp only [slotN, ruW, ASt.get, aget, ↓reduceIte, Nat.reduceLT, Nat.reduceEqDiff, eq_self]; omega)
          rw [hst, if_neg h]
      · obtain rfl : k = x.sets.length := by omega
        have hkv : (x.sets.length < vv.length) = False := by simp; omega
        have hn2 : n = V[i] := by rw [hn]; simp only [hV]
        have htk : (V.take (i + 1)).map (fun n => [eI n]) = (V.take i).map (fun n => [eI n]) ++ [[eI n]] := by rw [take_snocI V hVi, hn2]
        have htl : (V.take i).length ≤ 1000000 := by rw [List.length_take]; omega
        (repeat' (first | simp (maxSteps := 5000000) (implicitDefEqProofs := false) only [ruA, ruB, aEv, aTake, aLoad, aField, aLen, aBin, bin2, ASt.get, aget, ASt.put, aStore, aAppend, aBuildSlice, aCells, oneC, oneCL, treeC, treeL, aLit, aDst, aSrc, appTab, Value.cells, Value.oneCell', ↓reduceIte, reduceCtorEq, Nat.reduceLT, Nat.reduceEqDiff, Nat.reduceAdd, Nat.reduceMul, Nat.reduceLeDiff, eq_self, ne_eq, aBuildSlice1, frzs, ownIds, tyF_47_0, tyA_23, tyS_23, tyE_23, tyF_51_2, tyR_23, hkv] | (with_reducible refine aIf_split (fun _ => ?_) (fun _ => ?_)) | (with_reducible refine aSel_split (fun _ => ?_) (fun _ => ?_)) | (with_reducible refine aGd_split (fun _ => ?_) (fun _ => ?_))))
        exact ⟨rfl, ⟨by omega, by omega⟩, roundI (weak_ren1 [0, 1, 2, 3, 4, 7] ⟨(by decide), (by (first | ((simp only [envInR, tabInR, envLt, tabLt, AObj.lt, AV.lt, AV.ltL, AV.ren, AV.renL, AObj.ren, List.getD_cons_zero, List.getD_cons_succ, List.length_cons, List.length_nil, ruW, ASt.get, aget, ↓reduceIte, reduceCtorEq, Nat.reduceLT, Nat.reduceEqDiff, Nat.reduceAdd, eq_self, htk]) <;> (repeat' apply And.intro) <;> first | (rw [wrapK (by omega)]; done) | (simp; done) | omega) | fail))⟩) ⟨i + 1, by omega, rfl⟩ (by simp only [slotN, ruW, ASt.get, aget, ↓reduceIte, Nat.reduceLT, Nat.reduceEqDiff, eq_self]; omega)⟩
    · obtain rfl : i = s.vals.length := by omega
      have hVt : V.take s.vals.length = V := by rw [← hVl]; exact List.take_length
      (repeat' (first | simp (maxSteps := 5000000) (implicitDefEqProofs := false) only [ruA, ruB, aEv, aTake, aLoad, aField, aLen, aBin, bin2, ASt.get, aget, ASt.put, ↓reduceIte, reduceCtorEq, Nat.reduceLT, Nat.reduceEqDiff, Nat.reduceAdd, Nat.reduceLeDiff, eq_self, ne_eq, tyF_47_0, tyA_23, tyS_23, tyE_23, hi2, hVt] | (with_reducible refine aIf_split (fun _ => ?_) (fun _ => ?_)) | (with_reducible refine aSel_split (fun _ => ?_) (fun _ => ?_)) | (with_reducible refine aGd_split (fun _ => ?_) (fun _ => ?_))))
      refine aLoop_of (fun st' => ∃ i : Nat, i ≤ s.did.length ∧ st' = ⟨134, [(3, .op 0 0 0), (4, .op 1 0 0), (5, .op 2 0 0), (6, .op 3 0 0), (7, .op 4 0 0), (11, eI (i : Int))], [(0, some (.box 32 (eMod m))), (1, some (.box 47 (eSt s))), (2, some (.box 51 [eI (e : Int), eI vu, sI vv])), (3, some (.box 47 [.c (.slice none 0 0), eI 0, eI 0, .c (.slice none 0 0), .c (.slice none 0 0)])), (4, some (.box 47 [.osl 5, eI s.opn, eI s.don, .osl 6, .c (.slice none 0 0)])), (5, some (.row 2 1 (V.map fun n => [eI n]))), (6, some (.row 3 1 ((D.take i).map fun n => [eI n])))], 7⟩) (fun st' => s.did.length - slotN st' 11)
        ⟨_, (weak_nilbox 4 3 3 1 (t := 47) (cells := [.osl 5, eI s.opn, eI s.don, .c (.slice none 0 0), .c (.slice none 0 0)]) (by simp [ATab.get_cons]) rfl).trans (weak_cut1 (by (first | ((simp only [envIn, tabIn, envLt, tabLt, AObj.lt, AV.lt, AV.ltL, ruW, ASt.get, aget, ↓reduceIte, reduceCtorEq, Nat.reduceLT, Nat.reduceEqDiff, eq_self, List.set_cons_zero, List.set_cons_succ, List.take_zero]) <;> (repeat' apply And.intro) <;> first | (rw [wrapK (by omega)]; done) | (simp; done) | omega) | fail))), 0, Nat.zero_le _, rfl⟩ ?_
      rintro _ ⟨i, hi, rfl⟩
      by_cases hi3 : i < s.did.length
      · have hDi : i < D.length := by omega
        have htl : (D.take i).length ≤ 1000000 := by rw [List.length_take]; omega
        have hpt := put_A s.did[e] vu true hdid hu.1 hu.2
        rw [if_pos rfl] at hpt
        by_cases hie : i = e
        · subst hie
          have hDe : D[i] = withB s.did[i] vu := by simp only [← hD, List.getElem_set_self]
          have htk : (D.take (i + 1)).map (fun n => [eI n]) = (D.take i).map (fun n => [eI n]) ++ [[eI (withB s.did[i] vu)]] := by rw [take_snocI D hDi, hDe]
          have hq : (((i : Nat) : Int) == ((i : Nat) : Int)) = true := by simp
          (repeat' (first | simp (maxSteps := 5000000) (implicitDefEqProofs := false) only [ruA, ruB, aEv, aTake, aLoad, aField, aIndex, aLen, aBin, bin2, ASt.get, aget, ASt.put, aStore, aAppend, aBuildSlice, aCells, oneC, oneCL, treeC, treeL, aLit, aDst, aSrc, appTab, Value.cells, Value.oneCell', ↓reduceIte, reduceCtorEq, Nat.reduceLT, Nat.reduceEqDiff, Nat.reduceAdd, Nat.reduceMul, Nat.reduceLeDiff, eq_self, ne_eq, aBuildSlice1, frzs, ownIds, tyA_3, tyS_3, tyF_51_0, tyA_45, tyS_45, tyE_45, tyF_47_3, tyF_51_1, tyR_45, row_at, hi3, hq] | (with_reducible refine aIf_split (fun _ => ?_) (fun _ => ?_)) | (with_reducible refine aSel_split (fun _ => ?_) (fun _ => ?_)) | (with_reducible refine aGd_split (fun _ => ?_) (fun _ => ?_)) | (with_reducible refine aDraw_quiet (by kernel_rfl) ?_) | ((with_reducible apply callV); exact (hpt)) | ((with_reducible apply callD); exact (hpt))))
          exact ⟨rfl, ⟨by omega, by omega⟩, roundI (weak_ren1 [0, 1, 2, 3, 4, 5, 8] ⟨(by decide), (by (first | ((simp only [envInR, tabInR, envLt, tabLt, AObj.lt, AV.lt, AV.ltL, AV.ren, AV.renL, AObj.ren, List.getD_cons_zero, List.getD_cons_succ, List.length_cons, List.length_nil, ruW, ASt.get, aget, ↓reduceIte, reduceCtorEq, Nat.reduceLT, Nat.reduceEqDiff, Nat.reduceAdd, eq_self, htk]) <;> (repeat' apply And.intro) <;> first | (rw [wrapK (by omega)]; done) | (simp; done) | omega) | fail))⟩) ⟨i + 1, by omega, rfl⟩ (by simp only [slotN, ASt.get, aget, ↓reduceIte, Nat.reduceLT, Nat.reduceEqDiff, eq_self]; omega)⟩
        · have hDe : D[i] = s.did[i] := by simp only [← hD]; rw [List.getElem_set_ne (Ne.symm hie)]
          have htk : (D.take (i + 1)).map (fun n => [eI n]) = (D.take i).map (fun n => [eI n]) ++ [[eI s.did[i]]] := by rw [take_snocI D hDi, hDe]
          have hq : (((i : Nat) : Int) == ((e : Nat) : Int)) = false := by simp; omega
          (repeat' (first | simp (maxSteps := 5000000) (implicitDefEqProofs := false) only [ruA, ruB, aEv, aTake, aLoad, aField, aIndex, aLen, aBin, bin2, ASt.get, aget, ASt.put, aStore, aAppend, aBuildSlice, aCells, oneC, oneCL, treeC, treeL, aLit, aDst, aSrc, appTab, Value.cells, Value.oneCell', ↓reduceIte, reduceCtorEq, Nat.reduceLT, Nat.reduceEqDiff, Nat.reduceAdd, Nat.reduceMul, Nat.reduceLeDiff, eq_self, ne_eq, aBuildSlice1, frzs, ownIds, tyA_3, tyS_3, tyF_51_0, tyA_45, tyS_45, tyE_45, tyF_47_3, tyR_45, row_at, hi3, hq] | (with_reducible refine aIf_split (fun _ => ?_) (fun _ => ?_)) | (with_reducible refine aSel_split (fun _ => ?_) (fun _ => ?_)) | (with_reducible refine aGd_split (fun _ => ?_) (fun _ => ?_)) | (with_reducible refine aDraw_quiet (by kernel_rfl) ?_) | ((with_reducible apply callV); exact (hpt)) | ((with_reducible apply callD); exact (hpt))))
          exact ⟨rfl, ⟨by omega, by omega⟩, roundI (weak_ren1 [0, 1, 2, 3, 4, 5, 8] ⟨(by decide), (by (first | ((simp only [envInR, tabInR, envLt, tabLt, AObj.lt, AV.lt, AV.ltL, AV.ren, AV.renL, AObj.ren, List.getD_cons_zero, List.getD_cons_succ, List.length_cons, List.length_nil, ruW, ASt.get, aget, ↓reduceIte, reduceCtorEq, Nat.reduceLT, Nat.reduceEqDiff, Nat.reduceAdd, eq_self, htk]) <;> (repeat' apply And.intro) <;> first | (rw [wrapK (by omega)]; done) | (simp; done) | omega) | fail))⟩) ⟨i + 1, by omega, rfl⟩ (by simp only [slotN, ASt.get, aget, ↓reduceIte, Nat.reduceLT, Nat.reduceEqDiff, eq_self]; omega)⟩
      · obtain rfl : i = s.did.length := by omega
        have hDt : D.take s.did.length = D := by rw [← hDl]; exact List.take_length
        (repeat' (first | simp (maxSteps := 5000000) (implicitDefEqProofs := false) only [ruA, ruB, aEv, aTake, aLoad, aField, aLen, aBin, bin2, ASt.get, aget, ASt.put, ↓reduceIte, reduceCtorEq, Nat.reduceLT, Nat.reduceEqDiff, Nat.reduceAdd, Nat.reduceLeDiff, eq_self, ne_eq, tyA_45, tyS_45, tyE_45, tyF_47_3, hi3, hDt] | (with_reducible refine aIf_split (fun _ => ?_) (fun _ => ?_)) | (with_reducible refine aSel_split (fun _ => ?_) (fun _ => ?_)) | (with_reducible refine aGd_split (fun _ => ?_) (fun _ => ?_))))
        refine aLoop_of (fun st' => ∃ i : Nat, i ≤ s.cnt.length ∧ st' = ⟨134, [(3, .op 0 0 0), (4, .op 1 0 0), (5, .op 2 0 0), (6, .op 3 0 0), (7, .op 4 0 0), (13, eI (i : Int))], [(0, some (.box 32 (eMod m))), (1, some (.box 47 (eSt s))), (2, some (.box 51 [eI (e : Int), eI vu, sI vv])), (3, some (.box 47 [.c (.slice none 0 0), eI 0, eI 0, .c (.slice none 0 0), .c (.slice none 0 0)])), (4, some (.box 47 [.osl 5, eI s.opn, eI s.don, .osl 6, .osl 7])), (5, some (.row 2 1 (V.map fun n => [eI n]))), (6, some (.row 3 1 (D.map fun n => [eI n]))), (7, some (.row 3 1 ((C.take i).map fun n => [eI n])))], 8⟩) (fun st' => s.cnt.length - slotN st' 13)
          ⟨_, (weak_nilbox 4 4 3 1 (t := 47) (cells := [.osl 5, eI s.opn, eI s.don, .osl 6, .c (.slice none 0 0)]) (by simp [ATab.get_cons]) rfl).trans (weak_cut1 (by (first | ((simp only [envIn, tabIn, envLt, tabLt, AObj.lt, AV.lt, AV.ltL, ruW, ASt.get, aget, ↓reduceIte, reduceCtorEq, Nat.reduceLT, Nat.reduceEqDiff, eq_self, List.set_cons_zero, List.set_cons_succ, List.take_zero]) <;> (repeat' apply And.intro) <;> first | (rw [wrapK (by omega)]; done) | (simp; done) | omega) | fail))), 0, Nat.zero_le _, rfl⟩ ?_
        rintro _ ⟨i, hi, rfl⟩
        by_cases hi4 : i < s.cnt.length
        · have hCi : i < C.length := by omega
          have hie5 : i < m.events.length := by omega
          have htl : (C.take i).length ≤ 1000000 := by rw [List.length_take]; omega
          by_cases hie : i = e
          · subst hie
            by_cases hti : 0 < x.times
            · have hw' := hw hti
              have ew : IntKind.i64.wrap (s.cnt[i] + 1) = s.cnt[i] + 1 := wrap_in (by omega) (by omega)
              have hCe : C[i] = s.cnt[i] + 1 := by simp only [← hC, if_pos hti, List.getElem_set_self]
              have htk : (C.take (i + 1)).map (fun n => [eI n]) = (C.take i).map (fun n => [eI n]) ++ [[eI (s.cnt[i] + 1)]] := by rw [take_snocI C hCi, hCe]
              have hq : (((i : Nat) : Int) == ((i : Nat) : Int)) = true := by simp
              (repeat' (first | simp (maxSteps := 5000000) (implicitDefEqProofs := false) only [ruA, ruB, aEv, aTake, aLoad, aField, aIndex, aLen, aBin, bin2, ASt.get, aget, ASt.put, aStore, aAppend, aBuildSlice, aCells, oneC, oneCL, treeC, treeL, aLit, aDst, aSrc, appTab, Value.cells, Value.oneCell', ↓reduceIte, reduceCtorEq, Nat.reduceLT, Nat.reduceEqDiff, Nat.reduceAdd, Nat.reduceMul, Nat.reduceLeDiff, eq_self, ne_eq, aBuildSlice1, frzs, ownIds, tyA_3, tyS_3, tyF_32_5, tyA_26, tyS_26, tyF_51_0, tyE_26, tyA_45, tyS_45, tyE_45, tyR_45, tyF_47_4, tyF_61_4, row_at, hi4, hq, hie5, hx, hti, ew] | (with_reducible refine aIf_split (fun _ => ?_) (fun _ => ?_)) | (with_reducible refine aSel_split (fun _ => ?_) (fun _ => ?_)) | (with_reducible refine aGd_split (fun _ => ?_) (fun _ => ?_)) | (with_reducible refine aDraw_quiet (by kernel_rfl) ?_)))
              exact ⟨rfl, ⟨by omega, by omega⟩, roundI (weak_ren1 [0, 1, 2, 3, 4, 5, 6, 9] ⟨(by decide), (by (first | ((simp only [envInR, tabInR, envLt, tabLt, AObj.lt, AV.lt, AV.ltL, AV.ren, AV.renL, AObj.ren, List.getD_cons_zero, List.getD_cons_succ, List.length_cons, List.length_nil, ruW, ASt.get, aget, ↓reduceIte, reduceCtorEq, Nat.reduceLT, Nat.reduceEqDiff, Nat.reduceAdd, eq_self, htk]) <;> (repeat' apply And.intro) <;> first | (rw [wrapK (by omega)]; done) | (simp; done) | omega) | fail))⟩) ⟨i + 1, by omega, rfl⟩ (by simp only [slotN, ASt.get, aget, ↓reduceIte, Nat.reduceLT, Nat.reduceEqDiff, eq_self]; omega)⟩
            · have hCe : C[i] = s.cnt[i] := by simp only [← hC, if_neg hti]
              have htk : (C.take (i + 1)).map (fun n => [eI n]) = (C.take i).map (fun n => [eI n]) ++ [[eI s.cnt[i]]] := by rw [take_snocI C hCi, hCe]
              have hq : (((i : Nat) : Int) == ((i : Nat) : Int)) = true := by simp
              (repeat' (first | simp (maxSteps := 5000000) (implicitDefEqProofs := false) only [ruA, ruB, aEv, aTake, aLoad, aField, aIndex, aLen, aBin, bin2, ASt.get, aget, ASt.put, aStore, aAppend, aBuildSlice, aCells, oneC, oneCL, treeC, treeL, aLit, aDst, aSrc, appTab, Value.cells, Value.oneCell', ↓reduceIte, reduceCtorEq, Nat.reduceLT, Nat.reduceEqDiff, Nat.reduceAdd, Nat.reduceMul, Nat.reduceLeDiff, eq_self, ne_eq, aBuildSlice1, frzs, ownIds, tyA_3, tyS_3, tyF_32_5, tyA_26, tyS_26, tyF_51_0, tyE_26, tyA_45, tyS_45, tyE_45, tyR_45, tyF_47_4, tyF_61_4, row_at, hi4, hq, hie5, hx, hti] | (with_reducible refine aIf_split (fun _ => ?_) (fun _ => ?_)) | (with_reducible refine aSel_split (fun _ => ?_) (fun _ => ?_)) | (with_reducible refine aGd_split (fun _ => ?_) (fun _ => ?_)) | (with_reducible refine aDraw_quiet (by kernel_rfl) ?_)))
              exact ⟨rfl, ⟨by omega, by omega⟩, roundI (weak_ren1 [0, 1, 2, 3, 4, 5, 6, 9] ⟨(by decide), (by (first | ((simp only [envInR, tabInR, envLt, tabLt, AObj.lt, AV.lt, AV.ltL, AV.ren, AV.renL, AObj.ren, List.getD_cons_zero, List.getD_cons_succ, List.length_cons, List.length_nil, ruW, ASt.get, aget, ↓reduceIte, reduceCtorEq, Nat.reduceLT, Nat.reduceEqDiff, Nat.reduceAdd, eq_self, htk]) <;> (repeat' apply And.intro) <;> first | (rw [wrapK (by omega)]; done) | (simp; done) | omega) | fail))⟩) ⟨i + 1, by omega, rfl⟩ (by simp only [slotN, ASt.get, aget, ↓reduceIte, Nat.reduceLT, Nat.reduceEqDiff, eq_self]; omega)⟩
          · have hCe : C[i] = s.cnt[i] := by
              simp only [← hC]
              split
              · rw [List.getElem_set_ne (Ne.symm hie)]
              · rfl
            have htk : (C.take (i + 1)).map (fun n => [eI n]) = (C.take i).map (fun n => [eI n]) ++ [[eI s.cnt[i]]] := by rw [take_snocI C hCi, hCe]
            have hq : (((i : Nat) : Int) == ((e : Nat) : Int)) = false := by simp; omega
            (repeat' (first | simp (maxSteps := 5000000) (implicitDefEqProofs := false) only [ruA, ruB, aEv, aTake, aLoad, aField, aIndex, aLen, aBin, bin2, ASt.get, aget, ASt.put, aStore, aAppend, aBuildSlice, aCells, oneC, oneCL, treeC, treeL, aLit, aDst, aSrc, appTab, Value.cells, Value.oneCell', ↓reduceIte, reduceCtorEq, Nat.reduceLT, Nat.reduceEqDiff, Nat.reduceAdd, Nat.reduceMul, Nat.reduceLeDiff, eq_self, ne_eq, aBuildSlice1, frzs, ownIds, tyA_3, tyS_3, tyF_51_0, tyA_45, tyS_45, tyE_45, tyR_45, tyF_47_4, row_at, hi4, hq] | (with_reducible refine aIf_split (fun _ => ?_) (fun _ => ?_)) | (with_reducible refine aSel_split (fun _ => ?_) (fun _ => ?_)) | (with_reducible refine aGd_split (fun _ => ?_) (fun _ => ?_)) | (with_reducible refine aDraw_quiet (by kernel_rfl) ?_)))
            exact ⟨rfl, ⟨by omega, by omega⟩, roundI (weak_ren1 [0, 1, 2, 3, 4, 5, 6, 9] ⟨(by decide), (by (first | ((simp only [envInR, tabInR, envLt, tabLt, AObj.lt, AV.lt, AV.ltL, AV.ren, AV.renL, AObj.ren, List.getD_cons_zero, List.getD_cons_succ, List.length_cons, List.length_nil, ruW, ASt.get, aget, ↓reduceIte, reduceCtorEq, Nat.reduceLT, Nat.reduceEqDiff, Nat.reduceAdd, eq_self, htk]) <;> (repeat' apply And.intro) <;> first | (rw [wrapK (by omega)]; done) | (simp; done) | omega) | fail))⟩) ⟨i + 1, by omega, rfl⟩ (by simp only [slotN, ASt.get, aget, ↓reduceIte, Nat.reduceLT, Nat.reduceEqDiff, eq_self]; omega)⟩
        · obtain rfl : i = s.cnt.length := by omega
          have hCt : C.take s.cnt.length = C := by rw [← hCl]; exact List.take_length
          (repeat' (first | simp (maxSteps := 5000000) (implicitDefEqProofs := false) only [ruA, ruB, aEv, aTake, aLoad, aField, aLen, aBin, bin2, ASt.get, aget, ASt.put, aStore, aCells, oneC, oneCL, Value.oneCell', aResL, aOne, ↓reduceIte, reduceCtorEq, Nat.reduceLT, Nat.reduceEqDiff, Nat.reduceAdd, eq_self, ne_eq, tyA_47, tyS_47, tyA_45, tyS_45, tyE_45, tyF_47_4, hi4, hCt] | (with_reducible refine aIf_split (fun _ => ?_) (fun _ => ?_)) | (with_reducible refine aSel_split (fun _ => ?_) (fun _ => ?_)) | (with_reducible refine aGd_split (fun _ => ?_) (fun _ => ?_))))
          exact ⟨[5, 6, 7], by decide, rfl, by simp [aTabs, ATab.get_cons]⟩
  · simp [Res.frzs, Res.frz, ATab.get_cons, AV.frz, AV.frzL, frzTab, AObj.frz]
end
end Go.Proofs.YtfocnmkbnccilaaGreat
