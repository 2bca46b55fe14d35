/-
  Parts of the proof: D6, D7, D8, D9.
-/
import Derived.Test.YtcindbpnaicemaaSkp11
set_option linter.unusedVariables false
set_option linter.unusedSimpArgs false
namespace Go.Proofs.Ytcindbpnaicemaa
section
open Go.RowKit
def allN (f : Nat → Bool) : Nat → Bool
  | 0 => true
  | n + 1 => allN f n && f n
def anyN (f : Nat → Bool) : Nat → Bool
  | 0 => false
  | n + 1 => anyN f n || f n
theorem allN_iff (f : Nat → Bool) : ∀ n, allN f n = true ↔ ∀ i, i < n → f i = true
  | 0 => by simp [allN]
  | n + 1 => by
    rw [allN, Bool.and_eq_true, allN_iff f n]
    constructor
    · intro ⟨h1, h2⟩ i hi
      rcases Nat.lt_or_ge i n with h | h
      · exact h1 i h
      · obtain rfl : i = n := by omega
        exact h2
    · exact fun h => ⟨fun i hi => h i (by omega), h n (by omega)⟩
theorem anyN_iff (f : Nat → Bool) : ∀ n, anyN f n = true ↔ ∃ i, i < n ∧ f i = true
  | 0 => by simp [anyN]
  | n + 1 => by
    rw [anyN, Bool.or_eq_true, anyN_iff f n]
    constructor
    · rintro (⟨i, h1, h2⟩ | h)
      · exact ⟨i, by omega, h2⟩
      · exact ⟨n, by omega, h⟩
    · rintro ⟨i, h1, h2⟩
      rcases Nat.lt_or_ge i n with h | h
      · exact .inl ⟨i, h, h2⟩
      · obtain rfl : i = n := by omega
        exact .inr h2
theorem allN_no {f : Nat → Bool} {k n : Nat} (hk : k < n) (h : f k = false) : allN f n = false := by
  rw [Bool.eq_false_iff]
  intro h2
  rw [(allN_iff f n).1 h2 k hk] at h
  cases h
theorem anyN_yes {f : Nat → Bool} {k n : Nat} (hk : k < n) (h : f k = true) : anyN f n = true := (anyN_iff f n).2 ⟨k, hk, h⟩
theorem allN_step {f : Nat → Bool} {k : Nat} (h1 : allN f k = true) (h : f k = true) : allN f (k + 1) = true := by simp [allN, h1, h]
theorem anyN_step {f : Nat → Bool} {k : Nat} (h1 : anyN f k = false) (h : f k = false) : anyN f (k + 1) = false := by simp [anyN, h1, h]
/-- the set of so many -/
def firstI (n : Int) : Int := 2 ^ (max 0 (min n 31)).toNat - 1
theorem first_A (n : Int) : ADet Try.prog 56 [eI n] (val (.int .i64 (firstI n))) := by
  refine adet_of_code mixedT Try.func56 rfl (by decide) Try.ntmps56 Try.results56 rfl (val_ok _) ?_
  have h0 : ¬ (max 0 (min n 31) < 0) := by omega
  have h2 : (max 0 (min n 31)).toNat ≤ 31 := by omega
  have h1 : min (max 0 (min n 31)).toNat IntKind.i64.bits = (max 0 (min n 31)).toNat := by
    have : IntKind.i64.bits = 64 := rfl
    omega
  have hp : (1 : Int) ≤ 2 ^ (max 0 (min n 31)).toNat ∧ (2 : Int) ^ (max 0 (min n 31)).toNat ≤ 2147483648 := by
    have h3 : 2 ^ (max 0 (min n 31)).toNat ≤ 2 ^ 31 := Nat.pow_le_pow_right (by omega) h2
    have h4 : 1 ≤ 2 ^ (max 0 (min n 31)).toNat := Nat.one_le_two_pow
    have e : (2 : Int) ^ (max 0 (min n 31)).toNat = ((2 ^ (max 0 (min n 31)).toNat : Nat) : Int) := by simp
    rw [e]
    omega
  have w1 : IntKind.i64.wrap (1 * 2 ^ (max 0 (min n 31)).toNat) = 2 ^ (max 0 (min n 31)).toNat := by
    rw [Int.one_mul]
    exact wrap_in (by omega) (by omega)
  have w2 : IntKind.i64.wrap (2 ^ (max 0 (min n 31)).toNat - 1) = 2 ^ (max 0 (min n 31)).toNat - 1 := wrap_in (by omega) (by omega)
  unfold firstI
  (repeat' (first | simp (maxSteps := 5000000) (implicitDefEqProofs := false) only [ruA, aEv, aBin, bin2, ASt.get, aget, ASt.put, envOf, aResL, aOne, ↓reduceIte, reduceCtorEq, Nat.reduceLT, eq_self, aMM, h0, h1, w1, w2] | (with_reducible refine aIf_split (fun _ => ?_) (fun _ => ?_)) | (with_reducible refine aSel_split (fun _ => ?_) (fun _ => ?_)) | (with_reducible refine aGd_split (fun _ => ?_) (fun _ => ?_))))
def ofB (s n : Int) : Bool := decide (0 ≤ s) && decide (s ≤ firstI n)
theorem of_A (s n : Int) : ADet Try.prog 42 [eI s, eI n] (val (.bool (ofB s n))) := by
  refine adet_of_code mixedT Try.func42 rfl (by decide) Try.ntmps42 Try.results42 rfl (val_ok _) ?_
  unfold ofB
  (repeat' (first | simp (maxSteps := 5000000) (implicitDefEqProofs := false) only [ruA, ruB, aEv, aBin, bin2, ASt.get, aget, ASt.put, envOf, aResL, aOne, ↓reduceIte, reduceCtorEq, Nat.reduceLT, Nat.reduceEqDiff, eq_self] | (with_reducible refine aIf_split (fun _ => ?_) (fun _ => ?_)) | (with_reducible refine aSel_split (fun _ => ?_) (fun _ => ?_)) | (with_reducible refine aGd_split (fun _ => ?_) (fun _ => ?_)) | (with_reducible refine aDraw_quiet (by kernel_rfl) ?_) | ((with_reducible apply callV (g := 56)); exact (first_A _)) | ((with_reducible apply callD (g := 56)); exact (first_A _))))
  all_goals simp [*]
def chkAt (m : Mod) (s : St) (i : Nat) : Bool := ofB (s.did.getD i 0) m.users.length && decide (0 ≤ s.cnt.getD i 0) && decide (s.cnt.getD i 0 ≤ (m.events[i]?.map (·.times)).getD 0)
def chkS (m : Mod) (s : St) : Bool := decide (s.vals.length = m.attrs.length) && decide (s.did.length = m.events.length) && decide (s.cnt.length = m.events.length) && ofB s.opn m.stages.length && ofB s.don m.miles.length && allN (chkAt m s) m.events.length
set_option maxRecDepth 100000 in
set_option maxHeartbeats 8000000 in
theorem checkS_A (m : Mod) (s : St) (hl : m.events.length ≤ 1000000) : ADet Try.prog 22 [.agg (eMod m), .agg (eSt s)] (val (.bool (chkS m s))) := by
  refine adet_of_code mixedT Try.func22 rfl (by decide) Try.ntmps22 Try.results22 rfl (val_ok _) ?_
  (repeat' (first | simp (maxSteps := 5000000) (implicitDefEqProofs := false) only [ruA, ruB, aEv, aTake, aLoad, aField, aLen, aBin, bin2, aUn, un1, ASt.get, aget, ASt.put, aBox, aCells, oneC, oneCL, Value.oneCell', envOf, aResL, aOne, ↓reduceIte, reduceCtorEq, Nat.reduceLT, Nat.reduceEqDiff, Nat.reduceAdd, Nat.reduceLeDiff, eq_self, ne_eq, aLenM, false_or, tyF_32_5, tyA_26, tyS_26, tyE_26, tyF_35_0, tyA_23, tyS_23, tyE_23, tyF_32_0, tyA_22, tyS_22, tyE_22, tyF_35_3, tyA_33, tyS_33, tyE_33, tyF_35_4, tyF_35_1, tyA_3, tyS_3, tyF_32_4, tyA_25, tyS_25, tyE_25, tyF_35_2, tyF_32_7, tyA_28, tyS_28, tyE_28] | (with_reducible refine aIf_split (fun _ => ?_) (fun _ => ?_)) | (with_reducible refine aSel_split (fun _ => ?_) (fun _ => ?_)) | (with_reducible refine aGd_split (fun _ => ?_) (fun _ => ?_)) | (with_reducible refine aDraw_quiet (by kernel_rfl) ?_) | ((with_reducible apply callV (g := 42)); exact (of_A _ _)) | ((with_reducible apply callD (g := 42)); exact (of_A _ _))))
  all_goals first
    | (symm; unfold chkS; grind)
    | skip
  rename_i h1 h2 h3 h4 h5
  have h2 : s.did.length = m.events.length := by simp at h2; omega
  have h3 : s.cnt.length = m.events.length := by simp at h3; omega
  have hall : chkS m s = allN (chkAt m s) m.events.length := by unfold chkS; grind
  rw [hall]
  refine aLoop_of (fun st => ∃ k : Nat, k ≤ m.events.length ∧ allN (chkAt m s) k = true ∧ st = ⟨87, [(2, .op 0 0 0), (3, .op 1 0 0), (51, .sl 5 (m.events.map eEv)), (52, eI (m.events.length : Int)), (53, eI (k : Int))], [(0, some (.box 32 (eMod m))), (1, some (.box 35 (eSt s)))], 2⟩) (fun st => m.events.length - slotN st 53) ⟨_, (weak_cut1 (by (first | ((simp only [envIn, tabIn, envLt, tabLt, AObj.lt, AV.lt, AV.ltL, ruW, ASt.get, aget, ↓reduceIte, reduceCtorEq, Nat.reduceLT, Nat.reduceEqDiff, eq_self]) <;> (repeat' apply And.intro) <;> first | (rw [wrapK (by omega)]; done) | (simp; done) | omega) | fail))), 0, Nat.zero_le _, rfl, rfl⟩ ?_
  rintro _ ⟨k, hk, hI, rfl⟩
  by_cases hlt : k < m.events.length
  · have hd : k < s.did.length := by omega
    have hc : k < s.cnt.length := by omega
    have eF : chkAt m s k = (ofB s.did[k] m.users.length && decide (0 ≤ s.cnt[k]) && decide (s.cnt[k] ≤ m.events[k].times)) := by simp [chkAt, hd, hc, hlt]
    (repeat' (first | simp (maxSteps := 5000000) (implicitDefEqProofs := false) only [ruA, ruB, aEv, aTake, aLoad, aField, aIndex, aLen, aBin, bin2, aUn, un1, ASt.get, aget, ASt.put, aStore, aBox, aCells, oneC, oneCL, Value.cells, Value.oneCell', aResL, aOne, ↓reduceIte, reduceCtorEq, Nat.reduceLT, Nat.reduceEqDiff, Nat.reduceAdd, Nat.reduceLeDiff, eq_self, ne_eq, dref, tyE_26, tyA_22, tyS_22, tyE_22, tyF_35_3, tyA_33, tyS_33, tyE_33, tyF_35_4, tyA_3, tyS_3, tyA_56, tyS_56, tyZ_56, tyF_32_2, tyF_56_4, row_at, hlt, hd, hc] | (with_reducible refine aIf_split (fun _ => ?_) (fun _ => ?_)) | (with_reducible refine aSel_split (fun _ => ?_) (fun _ => ?_)) | (with_reducible refine aGd_split (fun _ => ?_) (fun _ => ?_)) | (with_reducible refine aDraw_quiet (by kernel_rfl) ?_) | ((with_reducible apply callV (g := 42)); exact (of_A _ _)) | ((with_reducible apply callD (g := 42)); exact (of_A _ _))))
    all_goals first
      | (symm; refine allN_no hlt ?_; rw [eF]; grind)
      | exact roundI (weak_cut1 (by (first | ((simp only [envIn, tabIn, envLt, tabLt, AObj.lt, AV.lt, AV.ltL, ruW, ASt.get, aget, ↓reduceIte, reduceCtorEq, Nat.reduceLT, Nat.reduceEqDiff, eq_self]) <;> (repeat' apply And.intro) <;> first | (rw [wrapK (by omega)]; done) | (simp; done) | omega) | fail))) ⟨k + 1, by omega, allN_step hI (by rw [eF]; grind), rfl⟩ (by simp only [slotN, ruW, ASt.get, aget, ↓reduceIte, Nat.reduceLT, Nat.reduceEqDiff, eq_self]; omega)
  · obtain rfl : k = m.events.length := by omega
    (repeat' (first | simp (maxSteps := 5000000) (implicitDefEqProofs := false) only [ruA, ruB, aEv, aBin, bin2, ASt.get, aget, ASt.put, aResL, aOne, ↓reduceIte, Nat.reduceLT, Nat.reduceEqDiff, eq_self, hlt] | (with_reducible refine aIf_split (fun _ => ?_) (fun _ => ?_)) | (with_reducible refine aSel_split (fun _ => ?_) (fun _ => ?_)) | (with_reducible refine aGd_split (fun _ => ?_) (fun _ => ?_)) | (with_reducible refine aDraw_quiet (by kernel_rfl) ?_)))
    exact hI.symm
def completeAt (m : Mod) (s : St) (k : Nat) : Bool := (m.miles[k]?.map (·.final)).getD false && hasB s.don (k : Int)
def completeM (m : Mod) (s : St) : Bool := anyN (completeAt m s) m.miles.length
set_option maxRecDepth 100000 in
theorem complete_A (m : Mod) (s : St) (hl : m.miles.length ≤ 1000000) : ADet Try.prog 68 [.agg (eMod m), .agg (eSt s)] (val (.bool (completeM m s))) := by
  refine adet_of_code mixedT Try.func68 rfl (by decide) Try.ntmps68 Try.results68 rfl (val_ok _) ?_
  (repeat' (first | simp (maxSteps := 5000000) (implicitDefEqProofs := false) only [ruA, ruB, aEv, aTake, aLoad, aField, aLen, ASt.get, aget, ASt.put, aBox, aCells, oneC, oneCL, Value.oneCell', envOf, ↓reduceIte, reduceCtorEq, Nat.reduceLT, Nat.reduceEqDiff, Nat.reduceAdd, Nat.reduceLeDiff, eq_self, ne_eq, aLenM, false_or, tyF_32_7, tyA_28, tyS_28, tyE_28] | (with_reducible refine aIf_split (fun _ => ?_) (fun _ => ?_)) | (with_reducible refine aSel_split (fun _ => ?_) (fun _ => ?_)) | (with_reducible refine aGd_split (fun _ => ?_) (fun _ => ?_)) | (with_reducible refine aDraw_quiet (by kernel_rfl) ?_)))
  unfold completeM
  refine aLoop_of (fun st => ∃ k : Nat, k ≤ m.miles.length ∧ anyN (completeAt m s) k = false ∧ st = ⟨24, [(2, .op 0 0 0), (3, .op 1 0 0), (8, .sl 5 (m.miles.map eMl)), (9, eI (m.miles.length : Int)), (10, eI (k : Int))], [(0, some (.box 32 (eMod m))), (1, some (.box 35 (eSt s)))], 2⟩) (fun st => m.miles.length - slotN st 10) ⟨_, (weak_cut1 (by (first | ((simp only [envIn, tabIn, envLt, tabLt, AObj.lt, AV.lt, AV.ltL, ruW, ASt.get, aget, ↓reduceIte, reduceCtorEq, Nat.reduceLT, Nat.reduceEqDiff, eq_self]) <;> (repeat' apply And.intro) <;> first | (rw [wrapK (by omega)]; done) | (simp; done) | omega) | fail))), 0, Nat.zero_le _, rfl, rfl⟩ ?_
  rintro _ ⟨k, hk, hI, rfl⟩
  by_cases hlt : k < m.miles.length
  · have eF : completeAt m s k = (m.miles[k].final && hasB s.don (k : Int)) := by simp [completeAt, hlt]
    (repeat' (first | simp (maxSteps := 5000000) (implicitDefEqProofs := false) only [ruA, ruB, aEv, aTake, aLoad, aField, aIndex, aBin, bin2, ASt.get, aget, ASt.put, aStore, aBox, aCells, oneC, oneCL, Value.cells, Value.oneCell', aResL, aOne, ↓reduceIte, reduceCtorEq, Nat.reduceLT, Nat.reduceEqDiff, Nat.reduceAdd, Nat.reduceLeDiff, eq_self, tyE_28, tyA_54, tyS_54, tyZ_54, tyF_54_4, tyA_4, tyS_4, tyF_35_2, tyA_3, tyS_3, row_at, hlt] | (with_reducible refine aIf_split (fun _ => ?_) (fun _ => ?_)) | (with_reducible refine aSel_split (fun _ => ?_) (fun _ => ?_)) | (with_reducible refine aGd_split (fun _ => ?_) (fun _ => ?_)) | (with_reducible refine aDraw_quiet (by kernel_rfl) ?_) | ((with_reducible apply callV (g := 69)); exact (has_A _ _)) | ((with_reducible apply callD (g := 69)); exact (has_A _ _))))
    all_goals first
      | (symm; refine anyN_yes hlt ?_; rw [eF]; grind)
      | exact roundI (weak_cut1 (by (first | ((simp only [envIn, tabIn, envLt, tabLt, AObj.lt, AV.lt, AV.ltL, ruW, ASt.get, aget, ↓reduceIte, reduceCtorEq, Nat.reduceLT, Nat.reduceEqDiff, eq_self]) <;> (repeat' apply And.intro) <;> first | (rw [wrapK (by omega)]; done) | (simp; done) | omega) | fail))) ⟨k + 1, by omega, anyN_step hI (by rw [eF]; grind), rfl⟩ (by simp only [slotN, ruW, ASt.get, aget, ↓reduceIte, Nat.reduceLT, Nat.reduceEqDiff, eq_self]; omega)
  · obtain rfl : k = m.miles.length := by omega
    (repeat' (first | simp (maxSteps := 5000000) (implicitDefEqProofs := false) only [ruA, ruB, aEv, aBin, bin2, ASt.get, aget, ASt.put, aResL, aOne, ↓reduceIte, Nat.reduceLT, Nat.reduceEqDiff, eq_self, hlt] | (with_reducible refine aIf_split (fun _ => ?_) (fun _ => ?_)) | (with_reducible refine aSel_split (fun _ => ?_) (fun _ => ?_)) | (with_reducible refine aGd_split (fun _ => ?_) (fun _ => ?_)) | (with_reducible refine aDraw_quiet (by kernel_rfl) ?_)))
    exact hI.symm
def atI (l : List Int) (i : Int) : Int := if 0 ≤ i ∧ i < (l.length : Int) then l.getD i.toNat 0 else 0
theorem at_A (l : List Int) (i : Int) : ADet Try.prog 71 [sI l, eI i] (val (.int .i64 (atI l i))) := by
  refine adet_of_code mixedT Try.func71 rfl (by decide) Try.ntmps71 Try.results71 rfl (val_ok _) ?_
  unfold atI
  by_cases h : 0 ≤ i ∧ i < (l.length : Int)
  · obtain ⟨k, rfl⟩ : ∃ k : Nat, i = (k : Int) := ⟨i.toNat, by omega⟩
    have hk : k < l.length := by omega
    rw [if_pos h]
    (repeat' (first | simp (maxSteps := 5000000) (implicitDefEqProofs := false) only [ruA, ruB, aEv, aTake, aLoad, aIndex, aLen, aBin, bin2, ASt.get, aget, ASt.put, envOf, aResL, aOne, ↓reduceIte, reduceCtorEq, Nat.reduceLT, Nat.reduceEqDiff, eq_self, ne_eq, aLenM, false_or, tyE_33, tyA_3, tyS_3, row_at, hk] | (with_reducible refine aIf_split (fun _ => ?_) (fun _ => ?_)) | (with_reducible refine aSel_split (fun _ => ?_) (fun _ => ?_)) | (with_reducible refine aGd_split (fun _ => ?_) (fun _ => ?_))))
    all_goals grind
  · rw [if_neg h]
    (repeat' (first | simp (maxSteps := 5000000) (implicitDefEqProofs := false) only [ruA, ruB, aEv, aTake, aLoad, aIndex, aLen, aBin, bin2, ASt.get, aget, ASt.put, envOf, aResL, aOne, ↓reduceIte, reduceCtorEq, Nat.reduceLT, Nat.reduceEqDiff, eq_self, ne_eq, aLenM, false_or, tyE_33, tyA_3, tyS_3] | (with_reducible refine aIf_split (fun _ => ?_) (fun _ => ?_)) | (with_reducible refine aSel_split (fun _ => ?_) (fun _ => ?_)) | (with_reducible refine aGd_split (fun _ => ?_) (fun _ => ?_))))
    rename_i h1 h2
    simp at h1 h2
    omega
def ofR (m : Mod) (role user : Int) : Bool := decide (0 ≤ role) && decide (role < (m.roles.length : Int)) && decide (0 ≤ user) && decide (user < (m.users.length : Int)) && ((m.roles[role.toNat]?).map (fun p => hasB p.2 user)).getD false
theorem ofR_A (m : Mod) (role user : Int) : ADet Try.prog 70 [.agg (eMod m), eI role, eI user] (val (.bool (ofR m role user))) := by
  refine adet_of_code mixedT Try.func70 rfl (by decide) Try.ntmps70 Try.results70 rfl (val_ok _) ?_
  by_cases h : 0 ≤ role ∧ role < (m.roles.length : Int)
  · obtain ⟨k, rfl⟩ : ∃ k : Nat, role = (k : Int) := ⟨role.toNat, by omega⟩
    have hk : k < m.roles.length := by omega
    have eR : ofR m k user = (decide (0 ≤ user) && decide (user < (m.users.length : Int)) && hasB m.roles[k].2 user) := by simp [ofR, hk]
    rw [eR]
    (repeat' (first | simp (maxSteps := 5000000) (implicitDefEqProofs := false) only [ruA, ruB, aEv, aTake, aLoad, aField, aIndex, aLen, aBin, bin2, ASt.get, aget, ASt.put, aBox, aCells, oneC, oneCL, envOf, aResL, aOne, ↓reduceIte, reduceCtorEq, Nat.reduceLT, Nat.reduceEqDiff, Nat.reduceAdd, Nat.reduceLeDiff, eq_self, ne_eq, aLenM, false_or, tyF_32_3, tyA_24, tyS_24, tyE_24, tyF_32_2, tyA_22, tyS_22, tyE_22, tyF_65_1, tyA_3, tyS_3, row_at, hk] | (with_reducible refine aIf_split (fun _ => ?_) (fun _ => ?_)) | (with_reducible refine aSel_split (fun _ => ?_) (fun _ => ?_)) | (with_reducible refine aGd_split (fun _ => ?_) (fun _ => ?_)) | (with_reducible refine aDraw_quiet (by kernel_rfl) ?_) | ((with_reducible apply callV (g := 69)); exact (has_A _ _)) | ((with_reducible apply callD (g := 69)); exact (has_A _ _))))
    all_goals grind
  · have eR : ofR m role user = false := by
      have : (decide (0 ≤ role) && decide (role < (m.roles.length : Int))) = false := by
        rw [Bool.and_eq_false_iff]
        simp only [decide_eq_false_iff_not]
        omega
      simp [ofR, this]
    rw [eR]
    (repeat' (first | simp (maxSteps := 5000000) (implicitDefEqProofs := false) only [ruA, ruB, aEv, aTake, aLoad, aField, aIndex, aLen, aBin, bin2, ASt.get, aget, ASt.put, aBox, aCells, oneC, oneCL, envOf, aResL, aOne, ↓reduceIte, reduceCtorEq, Nat.reduceLT, Nat.reduceEqDiff, Nat.reduceAdd, Nat.reduceLeDiff, eq_self, ne_eq, aLenM, false_or, tyF_32_3, tyA_24, tyS_24, tyE_24, tyF_32_2, tyA_22, tyS_22, tyE_22, tyF_65_1, tyA_3, tyS_3] | (with_reducible refine aIf_split (fun _ => ?_) (fun _ => ?_)) | (with_reducible refine aSel_split (fun _ => ?_) (fun _ => ?_)) | (with_reducible refine aGd_split (fun _ => ?_) (fun _ => ?_)) | (with_reducible refine aDraw_quiet (by kernel_rfl) ?_)))
    all_goals first
      | rfl
      | (exfalso; grind)
def apartAt (m : Mod) (s : St) (event user : Int) (k : Nat) : Bool := ((m.sods[k]?).map (fun x => ((x.1 == event) && hasB (atI s.did x.2) user) || ((x.2 == event) && hasB (atI s.did x.1) user))).getD false
def apartM (m : Mod) (s : St) (event user : Int) : Bool := anyN (apartAt m s event user) m.sods.length
set_option maxRecDepth 100000 in
set_option maxHeartbeats 8000000 in
theorem apart_A (m : Mod) (s : St) (event user : Int) (hl : m.sods.length ≤ 1000000) : ADet Try.prog 58 [.agg (eMod m), .agg (eSt s), eI event, eI user] (val (.bool (apartM m s event user))) := by
  refine adet_of_code mixedT Try.func58 rfl (by decide) Try.ntmps58 Try.results58 rfl (val_ok _) ?_
  (repeat' (first | simp (maxSteps := 5000000) (implicitDefEqProofs := false) only [ruA, ruB, aEv, aTake, aLoad, aField, aLen, ASt.get, aget, ASt.put, aBox, aCells, oneC, oneCL, Value.oneCell', envOf, ↓reduceIte, reduceCtorEq, Nat.reduceLT, Nat.reduceEqDiff, Nat.reduceAdd, Nat.reduceLeDiff, eq_self, ne_eq, aLenM, false_or, tyF_32_8, tyA_29, tyS_29, tyE_29] | (with_reducible refine aIf_split (fun _ => ?_) (fun _ => ?_)) | (with_reducible refine aSel_split (fun _ => ?_) (fun _ => ?_)) | (with_reducible refine aGd_split (fun _ => ?_) (fun _ => ?_)) | (with_reducible refine aDraw_quiet (by kernel_rfl) ?_)))
  unfold apartM
  refine aLoop_of (fun st => ∃ k : Nat, k ≤ m.sods.length ∧ anyN (apartAt m s event user) k = false ∧ st = ⟨47, [(2, eI event), (3, eI user), (4, .op 0 0 0), (5, .op 1 0 0), (12, .sl 2 (m.sods.map eII)), (13, eI (m.sods.length : Int)), (14, eI (k : Int))], [(0, some (.box 32 (eMod m))), (1, some (.box 35 (eSt s)))], 2⟩) (fun st => m.sods.length - slotN st 14) ⟨_, (weak_cut1 (by (first | ((simp only [envIn, tabIn, envLt, tabLt, AObj.lt, AV.lt, AV.ltL, ruW, ASt.get, aget, ↓reduceIte, reduceCtorEq, Nat.reduceLT, Nat.reduceEqDiff, eq_self]) <;> (repeat' apply And.intro) <;> first | (rw [wrapK (by omega)]; done) | (simp; done) | omega) | fail))), 0, Nat.zero_le _, rfl, rfl⟩ ?_
  rintro _ ⟨k, hk, hI, rfl⟩
  by_cases hlt : k < m.sods.length
  · obtain ⟨⟨a, b⟩, hx⟩ : ∃ x, m.sods[k] = x := ⟨_, rfl⟩
    have ex : eII m.sods[k] = [eI a, eI b] := by rw [hx]
    have eF : apartAt m s event user k = (((a == event) && hasB (atI s.did b) user) || ((b == event) && hasB (atI s.did a) user)) := by simp [apartAt, hlt, hx]
    (repeat' (first | simp (maxSteps := 5000000) (implicitDefEqProofs := false) only [ruA, ruB, aEv, aTake, aLoad, aField, aIndex, aBin, bin2, ASt.get, aget, ASt.put, aStore, aBox, aCells, oneC, oneCL, Value.cells, Value.oneCell', aResL, aOne, ↓reduceIte, reduceCtorEq, Nat.reduceLT, Nat.reduceEqDiff, Nat.reduceAdd, Nat.reduceLeDiff, eq_self, tyE_29, tyA_80, tyS_80, tyZ_80, tyF_80_0, tyA_3, tyS_3, tyF_35_3, tyA_33, tyS_33, tyF_80_1, row_at, hlt, ex] | (with_reducible refine aIf_split (fun _ => ?_) (fun _ => ?_)) | (with_reducible refine aSel_split (fun _ => ?_) (fun _ => ?_)) | (with_reducible refine aGd_split (fun _ => ?_) (fun _ => ?_)) | (with_reducible refine aDraw_quiet (by kernel_rfl) ?_) | ((with_reducible apply callV (g := 69)); exact (has_A _ _)) | ((with_reducible apply callD (g := 69)); exact (has_A _ _)) | ((with_reducible apply callV (g := 71)); exact (at_A _ _)) | ((with_reducible apply callD (g := 71)); exact (at_A _ _))))
    all_goals first
      | (symm; refine anyN_yes hlt ?_; rw [eF]; grind)
      | exact roundI (weak_cut1 (by (first | ((simp only [envIn, tabIn, envLt, tabLt, AObj.lt, AV.lt, AV.ltL, ruW, ASt.get, aget, ↓reduceIte, reduceCtorEq, Nat.reduceLT, Nat.reduceEqDiff, eq_self]) <;> (repeat' apply And.intro) <;> first | (rw [wrapK (by omega)]; done) | (simp; done) | omega) | fail))) ⟨k + 1, by omega, anyN_step hI (by rw [eF]; grind), rfl⟩ (by simp only [slotN, ruW, ASt.get, aget, ↓reduceIte, Nat.reduceLT, Nat.reduceEqDiff, eq_self]; omega)
      | trace_state
  · obtain rfl : k = m.sods.length := by omega
    (repeat' (first | simp (maxSteps := 5000000) (implicitDefEqProofs := false) only [ruA, ruB, aEv, aBin, bin2, ASt.get, aget, ASt.put, aResL, aOne, ↓reduceIte, Nat.reduceLT, Nat.reduceEqDiff, eq_self, hlt] | (with_reducible refine aIf_split (fun _ => ?_) (fun _ => ?_)) | (with_reducible refine aSel_split (fun _ => ?_) (fun _ => ?_)) | (with_reducible refine aGd_split (fun _ => ?_) (fun _ => ?_)) | (with_reducible refine aDraw_quiet (by kernel_rfl) ?_)))
    exact hI.symm
noncomputable def evAt (m : Mod) (event : Int) : Option Ev := if 0 ≤ event then m.events[event.toNat]? else none
noncomputable def freeM (m : Mod) (s : St) (event user : Int) : Bool :=
  match evAt m event with
  | none => false
  | some x => !completeM m s && decide (x.stage < (m.stages.length : Int)) && hasB s.opn x.stage && ofR m x.role user && (decide (x.times ≤ 0) || decide (atI s.cnt event < x.times))
set_option maxRecDepth 100000 in
set_option maxHeartbeats 8000000 in
theorem free_A (m : Mod) (s : St) (event user : Int) (hl : m.miles.length ≤ 1000000) : ADet Try.prog 57 [.agg (eMod m), .agg (eSt s), eI event, eI user] (val (.bool (freeM m s event user))) := by
  refine adet_of_code mixedT Try.func57 rfl (by decide) Try.ntmps57 Try.results57 rfl (val_ok _) ?_
  by_cases h : 0 ≤ event ∧ event < (m.events.length : Int)
  · obtain ⟨k, rfl⟩ : ∃ k : Nat, event = (k : Int) := ⟨event.toNat, by omega⟩
    have hk : k < m.events.length := by omega
    obtain ⟨x, hx⟩ : ∃ x, m.events[k] = x := ⟨_, rfl⟩
    have ee : evAt m (k : Int) = some x := by simp [evAt, hk, hx]
    have eR : freeM m s k user = (!completeM m s && decide (x.stage < (m.stages.length : Int)) && hasB s.opn x.stage && ofR m x.role user && (decide (x.times ≤ 0) || decide (atI s.cnt k < x.times))) := by simp only [freeM, ee]
    rw [eR]
    (repeat' (first | simp (maxSteps := 5000000) (implicitDefEqProofs := false) only [ruA, ruB, aEv, aTake, aLoad, aField, aIndex, aLen, aBin, bin2, ASt.get, aget, ASt.put, aStore, aBox, aCells, oneC, oneCL, Value.cells, Value.oneCell', envOf, aResL, aOne, ↓reduceIte, reduceCtorEq, Nat.reduceLT, Nat.reduceEqDiff, Nat.reduceAdd, Nat.reduceLeDiff, eq_self, ne_eq, dref, dref1, aLenM, false_or, tyK_3, tyF_32_5, tyA_26, tyS_26, tyE_26, tyA_32, tyS_32, tyA_35, tyS_35, tyA_56, tyS_56, tyZ_56, tyF_56_2, tyA_3, tyS_3, tyF_32_4, tyA_25, tyS_25, tyE_25, tyF_35_1, tyF_56_1, tyF_56_4, tyF_35_4, tyA_33, tyS_33, row_at, hk, hx] | (with_reducible refine aIf_split (fun _ => ?_) (fun _ => ?_)) | (with_reducible refine aSel_split (fun _ => ?_) (fun _ => ?_)) | (with_reducible refine aGd_split (fun _ => ?_) (fun _ => ?_)) | (with_reducible refine aDraw_quiet (by kernel_rfl) ?_) | ((with_reducible apply callV (g := 69)); exact (has_A _ _)) | ((with_reducible apply callD (g := 69)); exact (has_A _ _)) | ((with_reducible apply callV (g := 68)); exact (complete_A _ _ hl)) | ((with_reducible apply callD (g := 68)); exact (complete_A _ _ hl)) | ((with_reducible apply callV (g := 70)); exact (ofR_A _ _ _)) | ((with_reducible apply callD (g := 70)); exact (ofR_A _ _ _)) | ((with_reducible apply callV (g := 71)); exact (at_A _ _)) | ((with_reducible apply callD (g := 71)); exact (at_A _ _))))
    all_goals first
      | grind
      | trace_state
  · have ee : evAt m event = none := by
      unfold evAt
      split
      · exact List.getElem?_eq_none (by omega)
      · rfl
    have eR : freeM m s event user = false := by simp only [freeM, ee]
    rw [eR]
    (repeat' (first | simp (maxSteps := 5000000) (implicitDefEqProofs := false) only [ruA, ruB, aEv, aTake, aLoad, aField, aIndex, aLen, aBin, bin2, ASt.get, aget, ASt.put, aStore, aBox, aCells, oneC, oneCL, Value.cells, Value.oneCell', envOf, aResL, aOne, ↓reduceIte, reduceCtorEq, Nat.reduceLT, Nat.reduceEqDiff, Nat.reduceAdd, Nat.reduceLeDiff, eq_self, ne_eq, aLenM, false_or, tyF_32_5, tyA_26, tyS_26, tyE_26, tyA_32, tyS_32, tyA_35, tyS_35, tyA_56, tyS_56, tyZ_56] | (with_reducible refine aIf_split (fun _ => ?_) (fun _ => ?_)) | (with_reducible refine aSel_split (fun _ => ?_) (fun _ => ?_)) | (with_reducible refine aGd_split (fun _ => ?_) (fun _ => ?_)) | (with_reducible refine aDraw_quiet (by kernel_rfl) ?_) | ((with_reducible apply callV (g := 68)); exact (complete_A _ _ hl)) | ((with_reducible apply callD (g := 68)); exact (complete_A _ _ hl))))
    all_goals first
      | rfl
      | (exfalso; grind)
noncomputable def enabledM (m : Mod) (s : St) (event user : Int) : Bool := freeM m s event user && !apartM m s event user
set_option maxRecDepth 100000 in
theorem enabled_A (m : Mod) (s : St) (event user : Int) (hl : m.miles.length ≤ 1000000) (hl2 : m.sods.length ≤ 1000000) : ADet Try.prog 43 [.agg (eMod m), .agg (eSt s), eI event, eI user] (val (.bool (enabledM m s event user))) := by
  refine adet_of_code mixedT Try.func43 rfl (by decide) Try.ntmps43 Try.results43 rfl (val_ok _) ?_
  unfold enabledM
  (repeat' (first | simp (maxSteps := 5000000) (implicitDefEqProofs := false) only [ruA, ruB, aEv, aTake, aLoad, aUn, un1, ASt.get, aget, ASt.put, aBox, aCells, oneC, oneCL, Value.oneCell', envOf, aResL, aOne, ↓reduceIte, reduceCtorEq, Nat.reduceLT, Nat.reduceEqDiff, Nat.reduceAdd, eq_self, tyA_32, tyS_32, tyA_35, tyS_35] | (with_reducible refine aIf_split (fun _ => ?_) (fun _ => ?_)) | (with_reducible refine aSel_split (fun _ => ?_) (fun _ => ?_)) | (with_reducible refine aGd_split (fun _ => ?_) (fun _ => ?_)) | (with_reducible refine aDraw_quiet (by kernel_rfl) ?_) | ((with_reducible apply callV (g := 57)); exact (free_A _ _ _ _ hl)) | ((with_reducible apply callD (g := 57)); exact (free_A _ _ _ _ hl)) | ((with_reducible apply callV (g := 58)); exact (apart_A _ _ _ _ hl2)) | ((with_reducible apply callD (g := 58)); exact (apart_A _ _ _ _ hl2))))
  all_goals grind
def filtN (f : Nat → Bool) : Nat → List Int
  | 0 => []
  | n + 1 => if f n = true then filtN f n ++ [(n : Int)] else filtN f n
theorem filtN_len (f : Nat → Bool) : ∀ n, (filtN f n).length ≤ n
  | 0 => by simp [filtN]
  | n + 1 => by
    have := filtN_len f n
    unfold filtN
    split
    · simp; omega
    · omega
noncomputable def whoM (m : Mod) (s : St) (event : Int) : List Int := filtN (fun u => enabledM m s event (u : Int)) m.users.length
set_option maxRecDepth 100000 in
set_option maxHeartbeats 8000000 in
theorem who_A (m : Mod) (s : St) (event : Int) (hl : m.miles.length ≤ 1000000) (hl2 : m.sods.length ≤ 1000000) (hl3 : m.users.length ≤ 1000000) : ADet Try.prog 23 [.agg (eMod m), .agg (eSt s), eI event] (own 3 1 ((whoM m s event).map fun n => [eI n])) := by
  refine adet_of_code mixedT Try.func23 rfl (by decide) Try.ntmps23 Try.results23 rfl (own_ok _ _ _) ?_
  (repeat' (first | simp (maxSteps := 5000000) (implicitDefEqProofs := false) only [ruA, ruB, aEv, aTake, aLoad, aField, aLen, ASt.get, aget, ASt.put, aBox, aCells, oneC, oneCL, Value.oneCell', envOf, ↓reduceIte, reduceCtorEq, Nat.reduceLT, Nat.reduceEqDiff, Nat.reduceAdd, Nat.reduceLeDiff, eq_self, ne_eq, aLenM, false_or, tyF_32_2, tyA_22, tyS_22, tyE_22] | (with_reducible refine aIf_split (fun _ => ?_) (fun _ => ?_)) | (with_reducible refine aSel_split (fun _ => ?_) (fun _ => ?_)) | (with_reducible refine aGd_split (fun _ => ?_) (fun _ => ?_))))
  unfold whoM
  obtain ⟨f, hf⟩ : ∃ f : Nat → Bool, f = fun u : Nat => enabledM m s event (u : Int) := ⟨_, rfl⟩
  rw [← hf]
  have e0 : filtN f 0 = [] := rfl
  refine aLoop_of (fun st => ∃ k : Nat, k ≤ m.users.length ∧ st = ⟨26, [(2, eI event), (3, .op 0 0 0), (4, .op 1 0 0), (7, .osl 2), (11, eI (m.users.length : Int)), (12, eI (k : Int))], [(0, some (.box 32 (eMod m))), (1, some (.box 35 (eSt s))), (2, some (.row 3 1 ((filtN f k).map fun n => [eI n])))], 3⟩) (fun st => m.users.length - slotN st 12) ⟨_, ((weak_nil 7 3 1 (by simp only [ASt.get, aget, ↓reduceIte, Nat.reduceLT, Nat.reduceEqDiff, eq_self])).trans (weak_ren1 [0, 1, 2] ⟨(by decide), (by (first | ((simp only [envInR, tabInR, envLt, tabLt, AObj.lt, AV.lt, AV.ltL, AV.ren, AV.renL, AObj.ren, List.getD_cons_zero, List.getD_cons_succ, List.length_cons, List.length_nil, ruW, ASt.get, aget, ↓reduceIte, reduceCtorEq, Nat.reduceLT, Nat.reduceEqDiff, Nat.reduceAdd, eq_self, e0]) <;> (repeat' apply And.intro) <;> first | (rw [wrapK (by omega)]; done) | (simp; done) | omega) | fail))⟩)), 0, Nat.zero_le _, rfl⟩ ?_
  rintro _ ⟨k, hk, rfl⟩
  have hlen := filtN_len f k
  by_cases hlt : k < m.users.length
  · have hef : enabledM m s event (k : Int) = f k := by rw [hf]
    (repeat' (first | simp (maxSteps := 5000000) (implicitDefEqProofs := false) only [ruA, ruB, aEv, aTake, aLoad, aBin, bin2, ASt.get, aget, ASt.put, aAppend, aBuildSlice, aCells, oneC, oneCL, treeML, treeM_c, aLit, aDst, aSrc, appTab, Value.cells, Value.oneCell', ↓reduceIte, Nat.reduceLT, Nat.reduceEqDiff, Nat.reduceAdd, Nat.reduceMul, Nat.reduceLeDiff, eq_self, aBuildSlice1, frzs, ownIds, tyA_32, tyS_32, tyA_35, tyS_35, tyR_33, hlt] | (with_reducible refine aIf_split (fun _ => ?_) (fun _ => ?_)) | (with_reducible refine aSel_split (fun _ => ?_) (fun _ => ?_)) | (with_reducible refine aGd_split (fun _ => ?_) (fun _ => ?_)) | (with_reducible refine aDraw_quiet (by kernel_rfl) ?_) | ((refine callV (enabled_A m s event (k : Int) hl hl2) ?_; rw [hef]))))
    · rename_i h
      have et : (filtN f (k + 1)).map (fun n => [eI n]) = (filtN f k).map (fun n => [eI n]) ++ [[eI (k : Int)]] := by
        rw [filtN, if_pos h]
        simp
      refine ⟨rfl, by omega, roundI (weak_ren1 [0, 1, 4] ⟨(by decide), (by (first | ((simp only [envInR, tabInR, envLt, tabLt, AObj.lt, AV.lt, AV.ltL, AV.ren, AV.renL, AObj.ren, List.getD_cons_zero, List.getD_cons_succ, List.length_cons, List.length_nil, ruW, ASt.get, aget, ↓reduceIte, reduceCtorEq, Nat.reduceLT, Nat.reduceEqDiff, Nat.reduceAdd, eq_self, et]) <;> (repeat' apply And.intro) <;> first | (rw [wrapK (by omega)]; done) | (simp; done) | omega) | fail))⟩) ⟨k + 1, by omega, rfl⟩ (by simp only [slotN, ruW, ASt.get, aget, ↓reduceIte, Nat.reduceLT, Nat.reduceEqDiff, eq_self]; omega)⟩
    · rename_i h
      have et : filtN f (k + 1) = filtN f k := by
        rw [filtN, if_neg (by simp [h])]
      exact roundI (weak_cut1 (by (first | ((simp only [envIn, tabIn, envLt, tabLt, AObj.lt, AV.lt, AV.ltL, ruW, ASt.get, aget, ↓reduceIte, Nat.reduceLT, Nat.reduceEqDiff, eq_self, et]) <;> (repeat' apply And.intro) <;> first | (rw [wrapK (by omega)]; done) | (simp; done) | omega) | fail))) ⟨k + 1, by omega, rfl⟩ (by simp only [slotN, ruW, ASt.get, aget, ↓reduceIte, Nat.reduceLT, Nat.reduceEqDiff, eq_self]; omega)
  · obtain rfl : k = m.users.length := by omega
    (repeat' (first | simp (maxSteps := 5000000) (implicitDefEqProofs := false) only [ruA, ruB, aEv, aBin, bin2, ASt.get, aget, ASt.put, aResL, aOne, ↓reduceIte, Nat.reduceLT, Nat.reduceEqDiff, eq_self, hlt] | (with_reducible refine aIf_split (fun _ => ?_) (fun _ => ?_)) | (with_reducible refine aSel_split (fun _ => ?_) (fun _ => ?_)) | (with_reducible refine aGd_split (fun _ => ?_) (fun _ => ?_)) | (with_reducible refine aDraw_quiet (by kernel_rfl) ?_)))
    exact aGives_own (by simp [ATab.get_cons])
end
section
open Go.RowKit
section
variable {P : Program} {f : FuncId} {args : List AV}
theorem res_frz {cx : Cx} {w' : World} {L : Nat → Value} {v : Value} {R : Res} (h5 : R.Ok) (h7 : Lay cx w' R.tab L) (h8 : RVx cx w' R.tab L v R.r) (id : Nat) : (R.frz id).Ok ∧ Lay cx w' (R.frz id).tab L ∧ RVx cx w' (R.frz id).tab L v (R.frz id).r := by
  unfold Res.frz
  split
  · rename_i e' sz rows hid
    obtain ⟨h9, h10⟩ := frz_core h7 (fun k o hk => (h5.young k o hk).2) hid
    refine ⟨⟨fun k o hk => ?_, frz_lt h5.lt⟩, h9, h10 v _ h8 h5.lt⟩
    simp only [ATab.get_cons, frzTab_get] at hk
    split at hk
    · cases hk
    · cases hg : R.tab.get k with
      | none => simp [hg] at hk
      | some o' =>
        simp [hg] at hk
        subst hk
        exact ⟨(h5.young k o' hg).1, frz_obj_lt (h5.young k o' hg).2⟩
  · exact ⟨h5, h7, h8⟩
theorem res_frzs {cx : Cx} {w' : World} {L : Nat → Value} {v : Value} : ∀ (ids : List Nat) {R : Res}, R.Ok → Lay cx w' R.tab L → RVx cx w' R.tab L v R.r → (R.frzs ids).Ok ∧ Lay cx w' (R.frzs ids).tab L ∧ RVx cx w' (R.frzs ids).tab L v (R.frzs ids).r
  | [], R, h1, h2, h3 => ⟨h1, h2, h3⟩
  | id :: ids, R, h1, h2, h3 => by
    obtain ⟨h4, h5, h6⟩ := res_frz h1 h2 h3 id
    exact res_frzs ids h4 h5 h6
inductive FitsT : AV → AV → Prop
  | one {a b : AV} (h : FitsA a b) : FitsT a b
  | tup {l l' : List AV} (h : FitsAs l l') : FitsT (.tup l) (.tup l')
theorem rt_of_rv {w : World} {S : Nat → Prop} {K : Nat → Option (Nat × Value)} {x : Value} {av : AV} (h : RV w S K x av) : av.lt 0 → RT w S x av := by
  induction h with
  | tree h => exact fun _ => h
  | osl x id h => exact fun h2 => by simp [AV.lt] at h2
  | op x id i j h => exact fun h2 => by simp [AV.lt] at h2
  | agg xs cs hn hr ih =>
    intro h2
    simp only [AV.lt] at h2
    exact .agg xs cs hn fun j x av h3 h4 => ih j x av h3 h4 (ltL_iff.1 h2 av (List.mem_of_getElem? h4))
  | tup xs cs hn hr ih =>
    intro h2
    simp only [AV.lt] at h2
    exact .tup xs cs hn fun j x av h3 h4 => ih j x av h3 h4 (ltL_iff.1 h2 av (List.mem_of_getElem? h4))
  | fn f xs cs hn hr ih =>
    intro h2
    simp only [AV.lt] at h2
    exact .fn f xs cs hn fun j x av h3 h4 => ih j x av h3 h4 (ltL_iff.1 h2 av (List.mem_of_getElem? h4))
  | bfn f xs cs hn hr ih =>
    intro h2
    simp only [AV.lt] at h2
    exact .bfn f xs cs hn fun j x av h3 h4 => ih j x av h3 h4 (ltL_iff.1 h2 av (List.mem_of_getElem? h4))
theorem RT.tup_inv {w : World} {S : Nat → Prop} {x : Value} {cs : List AV} (h : RT w S x (.tup cs)) : ∃ xs : Array Value, x = .tuple xs ∧ xs.size = cs.length ∧ ∀ (j : Nat) (x : Value) (av : AV), xs[j]? = some x → cs[j]? = some av → RT w S x av := by
  cases h with
  | tup xs _ hn hr => exact ⟨xs, rfl, hn, hr⟩
theorem FitsT.rt {w : World} {S : Nat → Prop} {v : Value} {a b : AV} (h : FitsT a b) (hr : RT w S v a) : RT w S v b := by
  cases h with
  | one h => exact h.rt hr
  | @tup l l' h =>
    obtain ⟨xs, rfl, hn, hx⟩ := hr.tup_inv
    obtain ⟨h1, h2⟩ := h.spec
    refine .tup xs l' (by omega) fun j x av h3 h4 => ?_
    have hj : j < l.length := by
      have := (List.getElem?_eq_some_iff.1 h4).1
      omega
    have h5 : l[j]? = some l[j] := List.getElem?_eq_getElem hj
    exact (h2 j _ av h5 h4).rt (hx j x _ h3 h5)
theorem tab_ok {R : Res} (h1 : tabLt R.n R.tab) (h2 : R.r.lt R.n) : R.Ok := by
  refine ⟨?_, h2⟩
  revert h1
  generalize R.tab = T
  induction T with
  | nil => exact fun _ id o h => by cases h
  | cons p T ih =>
    obtain ⟨k, ob⟩ := p
    intro h1 id o h
    rw [ATab.get_cons] at h
    cases ob with
    | none =>
      simp only [tabLt] at h1
      split at h
      · cases h
      · exact ih h1 id o h
    | some ob =>
      simp only [tabLt] at h1
      split at h
      · rename_i e
        cases h
        exact ⟨by rw [e]; exact h1.1.1, h1.1.2⟩
      · exact ih h1.2 id o h
/-- an answer that nobody writes any more -/
theorem ARel.tree {Post : Res → Prop} {r' : AV} (h : ARel P f args Post) (hl : r'.lt 0) (hp : ∀ R, Post R → ∃ ids, (R.frzs ids).r.lt 0 ∧ FitsT (R.frzs ids).r r') : ADet P f args ⟨r', [], 0⟩ :=
  ⟨h.1, fun S w vs h1 h2 h3 => (h.2 S w vs h1 h2 h3).mono fun e w' ⟨v, L, R, h4, h5, h6, h7, h8⟩ => by
    obtain ⟨ids, ha, hc⟩ := hp R h4
    obtain ⟨h9, h10, h11⟩ := res_frzs ids h5 h7 h8
    have hext : Ext (Cx.mk0 S w h1) w' (R.frzs ids).tab L 0 w' [] L := ⟨fun _ _ => rfl, fun b hb => ⟨hb.1, hb.2.1, fun k o hk => (by cases hk)⟩, fun k p _ hk => by simp [Kx, ATab.get] at hk⟩
    have h12 := rt_of_rv (hext.rv h11 ha) ha
    exact ⟨v, L, ⟨r', [], 0⟩, rfl, ⟨fun id o hk => (by cases hk), hl⟩, h6, ⟨h10.below, fun id o hk => (by cases hk), fun id id' o o' g hk => (by cases hk), fun b hb => hb.elim⟩, .tree (hc.rt h12)⟩⟩
end
theorem ownI_A (l : List Int) (hl : l.length ≤ 1000000) : ADet Try.prog 48 [sI l] (own 3 1 (l.map fun n => [eI n])) := by
  refine adet_of_code mixedT Try.func48 rfl (by decide) Try.ntmps48 Try.results48 rfl (own_ok _ _ _) ?_
  (repeat' (first | simp (maxSteps := 5000000) (implicitDefEqProofs := false) only [ruA, ruB, aEv, aLen, ASt.get, aget, ASt.put, aAppend, aBuildSlice, aCells, aLit, aDst, aSrc, appTab, Value.cells, envOf, aResL, aOne, ↓reduceIte, reduceCtorEq, Nat.reduceLT, Nat.reduceEqDiff, Nat.reduceAdd, Nat.reduceMul, eq_self, ne_eq, aBuildSlice1, frzs, ownIds, aSliceW, aSliceO, aBd, aMax, aLenM, false_or, tyR_33, tyE_33] | (with_reducible refine aIf_split (fun _ => ?_) (fun _ => ?_)) | (with_reducible refine aSel_split (fun _ => ?_) (fun _ => ?_)) | (with_reducible refine aGd_split (fun _ => ?_) (fun _ => ?_))))
  exact ⟨rfl, by omega, aGives_own (by simp [ATab.get_cons, List.take_of_length_le])⟩
theorem ownI64_A (l : List Int) (hl : l.length ≤ 1000000) : ADet Try.prog 47 [sI l] (own 2 1 (l.map fun n => [eI n])) := by
  refine adet_of_code mixedT Try.func47 rfl (by decide) Try.ntmps47 Try.results47 rfl (own_ok _ _ _) ?_
  (repeat' (first | simp (maxSteps := 5000000) (implicitDefEqProofs := false) only [ruA, ruB, aEv, aLen, ASt.get, aget, ASt.put, aAppend, aBuildSlice, aCells, aLit, aDst, aSrc, appTab, Value.cells, envOf, aResL, aOne, ↓reduceIte, reduceCtorEq, Nat.reduceLT, Nat.reduceEqDiff, Nat.reduceAdd, Nat.reduceMul, eq_self, ne_eq, aBuildSlice1, frzs, ownIds, aSliceW, aSliceO, aBd, aMax, aLenM, false_or, tyR_23, tyE_23] | (with_reducible refine aIf_split (fun _ => ?_) (fun _ => ?_)) | (with_reducible refine aSel_split (fun _ => ?_) (fun _ => ?_)) | (with_reducible refine aGd_split (fun _ => ?_) (fun _ => ?_))))
  exact ⟨rfl, by omega, aGives_own (by simp [ATab.get_cons, List.take_of_length_le])⟩
end
section
open Go.RowKit
def sameB (a b : St) : Bool := decide (a.vals = b.vals) && (a.opn == b.opn) && (a.don == b.don) && decide (a.did = b.did) && decide (a.cnt = b.cnt)
set_option maxRecDepth 100000 in
theorem sameS_A (a b : St) (h1 : a.vals.length ≤ 1000000) (h2 : a.did.length ≤ 1000000) (h3 : a.cnt.length ≤ 1000000) : ADet Try.prog 13 [.agg (eSt a), .agg (eSt b)] (val (.bool (sameB a b))) := by
  refine adet_of_code mixedT Try.func13 rfl (by decide) Try.ntmps13 Try.results13 rfl (val_ok _) ?_
  unfold sameB
  (repeat' (first | simp (maxSteps := 5000000) (implicitDefEqProofs := false) only [ruA, ruB, aEv, aTake, aLoad, aField, aBin, bin2, ASt.get, aget, ASt.put, aBox, aCells, oneC, oneCL, Value.oneCell', envOf, aResL, aOne, ↓reduceIte, reduceCtorEq, Nat.reduceLT, Nat.reduceEqDiff, Nat.reduceAdd, Nat.reduceLeDiff, eq_self, tyF_35_0, tyA_23, tyS_23, tyF_35_1, tyA_3, tyS_3, tyF_35_2, tyF_35_3, tyA_33, tyS_33, tyF_35_4] | (with_reducible refine aIf_split (fun _ => ?_) (fun _ => ?_)) | (with_reducible refine aSel_split (fun _ => ?_) (fun _ => ?_)) | (with_reducible refine aGd_split (fun _ => ?_) (fun _ => ?_)) | (with_reducible refine aDraw_quiet (by kernel_rfl) ?_) | ((with_reducible apply callV (g := 30)); exact (same03_A _ _ h1)) | ((with_reducible apply callD (g := 30)); exact (same03_A _ _ h1)) | ((with_reducible apply callV (g := 31)); exact (same10_A _ _ h2)) | ((with_reducible apply callD (g := 31)); exact (same10_A _ _ h2)) | ((with_reducible apply callV (g := 31)); exact (same10_A _ _ h3)) | ((with_reducible apply callD (g := 31)); exact (same10_A _ _ h3))))
  all_goals grind
structure Mv where
  event : Int
  user : Int
  vals : List Int
abbrev eMv (v : Mv) : List AV := [eI v.event, eI v.user, sI v.vals]
def idleM (v : Mv) : Bool := (v.event == -1) && (v.user == -1) && decide (v.vals.length = 0)
set_option maxRecDepth 100000 in
theorem idle_A (v : Mv) : ADet Try.prog 26 [.agg (eMv v)] (val (.bool (idleM v))) := by
  refine adet_of_code mixedT Try.func26 rfl (by decide) Try.ntmps26 Try.results26 rfl (val_ok _) ?_
  unfold idleM
  (repeat' (first | simp (maxSteps := 5000000) (implicitDefEqProofs := false) only [ruA, ruB, aEv, aTake, aLoad, aField, aLen, aBin, bin2, ASt.get, aget, ASt.put, aBox, aCells, oneC, oneCL, Value.oneCell', envOf, aResL, aOne, ↓reduceIte, reduceCtorEq, Nat.reduceLT, Nat.reduceEqDiff, Nat.reduceAdd, Nat.reduceLeDiff, eq_self, ne_eq, aLenM, false_or, tyF_43_0, tyA_3, tyS_3, tyF_43_1, tyF_43_2, tyA_23, tyS_23, tyE_23] | (with_reducible refine aIf_split (fun _ => ?_) (fun _ => ?_)) | (with_reducible refine aSel_split (fun _ => ?_) (fun _ => ?_)) | (with_reducible refine aGd_split (fun _ => ?_) (fun _ => ?_)) | (with_reducible refine aDraw_quiet (by kernel_rfl) ?_)))
  all_goals grind
end
section
open Go.RowKit
/-- what is put into numbers -/
def setVals (sets mv vals : List Int) : Nat → List Int
  | 0 => vals
  | k + 1 =>
    let v := setVals sets mv vals k
    let a := sets.getD k 0
    if 0 ≤ a ∧ a < (v.length : Int) then v.set a.toNat (mv.getD k 0) else v
theorem setVals_len (sets mv vals : List Int) : ∀ k, (setVals sets mv vals k).length = vals.length
  | 0 => rfl
  | k + 1 => by
    have := setVals_len sets mv vals k
    unfold setVals
    simp only
    split
    · simp [this]
    · exact this
noncomputable def takeM (m : Mod) (s : St) (v : Mv) : St :=
  match evAt m v.event with
  | none => s
  | some x => ⟨setVals x.sets v.vals s.vals x.sets.length, s.opn, s.don, s.did.set v.event.toNat (withB (s.did.getD v.event.toNat 0) v.user), if 0 < x.times then s.cnt.set v.event.toNat (s.cnt.getD v.event.toNat 0 + 1) else s.cnt⟩
set_option maxRecDepth 100000 in
set_option maxHeartbeats 8000000 in
theorem take_A (m : Mod) (s : St) (v : Mv) (e : Nat) (x : Ev) (he : v.event = (e : Int)) (hlt : e < m.events.length) (hx : m.events[e] = x) (hd : e < s.did.length) (hc : e < s.cnt.length) (hv : x.sets.length ≤ v.vals.length)
    (hl1 : s.vals.length ≤ 1000000) (hl2 : s.did.length ≤ 1000000) (hl3 : s.cnt.length ≤ 1000000) (hl4 : x.sets.length ≤ 1000000) (hw : 0 < x.times → -9223372036854775808 ≤ s.cnt[e] ∧ s.cnt[e] < 9223372036854775807) :
    ADet Try.prog 28 [.agg (eMod m), .agg (eSt s), .agg (eMv v)] ⟨.agg (eSt (takeM m s v)), [], 0⟩ := by
  obtain ⟨ve, vu, vv⟩ := v
  simp only at he hv
  subst he
  have ee : evAt m (e : Int) = some x := by simp [evAt, hlt, hx]
  have et : takeM m s ⟨(e : Int), vu, vv⟩ = ⟨setVals x.sets vv s.vals x.sets.length, s.opn, s.don, s.did.set e (withB s.did[e] vu), if 0 < x.times then s.cnt.set e (s.cnt[e] + 1) else s.cnt⟩ := by
    unfold takeM
    simp only [ee, Int.toNat_natCast, List.getD_eq_getElem?_getD, List.getElem?_eq_getElem hd, List.getElem?_eq_getElem hc, Option.getD_some]
  rw [et]
  refine ADet.still (R := ⟨.agg [.osl 0, eI s.opn, eI s.don, .osl 1, .osl 2], [(0, some (.row 2 1 ((setVals x.sets vv s.vals x.sets.length).map fun n => [eI n]))), (1, some (.row 3 1 ((s.did.set e (withB s.did[e] vu)).map fun n => [eI n]))), (2, some (.row 3 1 ((if 0 < x.times then s.cnt.set e (s.cnt[e] + 1) else s.cnt).map fun n => [eI n])))], 3⟩) [0, 1, 2] ?_ ?_ (by simp [AV.lt, AV.ltL])
  · refine adet_of_code mixedT Try.func28 rfl (by decide) Try.ntmps28 Try.results28 rfl (tab_ok (by simp [tabLt, AObj.lt]) (by simp [AV.lt, AV.ltL])) ?_
    (repeat' (first | simp (maxSteps := 5000000) (implicitDefEqProofs := false) only [ruA, ruB, aEv, aTake, aLoad, aField, aIndex, ASt.get, aget, ASt.put, aStore, aBox, aCells, oneC, oneCL, Value.cells, Value.oneCell', envOf, ↓reduceIte, reduceCtorEq, Nat.reduceLT, Nat.reduceEqDiff, Nat.reduceAdd, Nat.reduceLeDiff, eq_self, tyZ_35, tyF_32_5, tyA_26, tyS_26, tyF_43_0, tyA_3, tyS_3, tyE_26, tyA_56, tyS_56, tyZ_56, row_at, hlt, hx] | (with_reducible refine aIf_split (fun _ => ?_) (fun _ => ?_)) | (with_reducible refine aSel_split (fun _ => ?_) (fun _ => ?_)) | (with_reducible refine aGd_split (fun _ => ?_) (fun _ => ?_))))

    refine aDraw_join (fun st' => st' = ⟨81, [(3, .op 0 0 0), (4, .op 1 0 0), (5, .op 2 0 0), (6, .op 3 0 0), (7, .op 4 0 0)], [(0, some (.box 32 (eMod m))), (1, some (.box 35 [.osl 5, eI s.opn, eI s.don, .osl 6, .osl 7])), (2, some (.box 43 [eI (e : Int), eI vu, sI vv])), (3, some (.box 35 [.c (.slice none 0 0), eI 0, eI 0, .c (.slice none 0 0), .c (.slice none 0 0)])), (4, some (.box 56 (eEv x))), (5, some (.row 2 1 (s.vals.map fun n => [eI n]))), (6, some (.row 3 1 (s.did.map fun n => [eI n]))), (7, some (.row 3 1 (s.cnt.map fun n => [eI n])))], 8⟩) [1] [0, 3, 6] (.three 1 (.three 2 (.two 4 (.two 5 (.exec 7 (.take 9 (.exec 8 (.exec 10 (.take 11 (.exec 12 (.take 13 (.exec 14 .done)))))))) 7 (.take 9 (.exec 5 (.exec 8 (.exec 10 (.take 11 (.exec 12 (.take 13 (.exec 14 .done))))))))) 7 (.exec 4 (.take 9 (.exec 5 (.exec 8 (.exec 10 (.take 11 (.exec 12 (.take 13 (.exec 14 .done)))))))))) 4 (.two 2 (.two 5 (.exec 7 (.take 9 (.exec 8 (.exec 10 (.take 11 (.exec 12 (.take 13 (.exec 14 .done)))))))) 7 (.take 9 (.exec 5 (.exec 8 (.exec 10 (.take 11 (.exec 12 (.take 13 (.exec 14 .done))))))))) 7 (.exec 2 (.take 9 (.exec 5 (.exec 8 (.exec 10 (.take 11 (.exec 12 (.take 13 (.exec 14 .done)))))))))) 7 (.two 2 (.exec 4 (.take 9 (.exec 5 (.exec 8 (.exec 10 (.take 11 (.exec 12 (.take 13 (.exec 14 .done))))))))) 4 (.exec 2 (.take 9 (.exec 5 (.exec 8 (.exec 10 (.take 11 (.exec 12 (.take 13 (.exec 14 .done))))))))))) 4 (.two 1 (.two 2 (.two 5 (.exec 7 (.take 9 (.exec 8 (.exec 10 (.take 11 (.exec 12 (.take 13 (.exec 14 .done)))))))) 7 (.take 9 (.exec 5 (.exec 8 (.exec 10 (.take 11 (.exec 12 (.take 13 (.exec 14 .done))))))))) 7 (.exec 2 (.take 9 (.exec 5 (.exec 8 (.exec 10 (.take 11 (.exec 12 (.take 13 (.exec 14 .done)))))))))) 7 (.exec 1 (.exec 2 (.take 9 (.exec 5 (.exec 8 (.exec 10 (.take 11 (.exec 12 (.take 13 (.exec 14 .done))))))))))) 7 (.two 1 (.two 2 (.exec 4 (.take 9 (.exec 5 (.exec 8 (.exec 10 (.take 11 (.exec 12 (.take 13 (.exec 14 .done))))))))) 4 (.exec 2 (.take 9 (.exec 5 (.exec 8 (.exec 10 (.take 11 (.exec 12 (.take 13 (.exec 14 .done)))))))))) 4 (.exec 1 (.exec 2 (.take 9 (.exec 5 (.exec 8 (.exec 10 (.take 11 (.exec 12 (.take 13 (.exec 14 .done)))))))))))) (by kernel_rfl) (by simp [ATab.get_cons]) ?_ ?_
    · (repeat' (first | simp (maxSteps := 5000000) (implicitDefEqProofs := false) only [ruA, ruB, aEv, aTake, aLoad, aField, ASt.get, aget, ASt.put, aCells, oneC, oneCL, ↓reduceIte, reduceCtorEq, Nat.reduceLT, Nat.reduceEqDiff, Nat.reduceAdd, Nat.reduceLeDiff, eq_self, aExecS, aStoreB, aTakes, aTakeE, aMay, tyF_35_0, tyA_23, tyS_23, tyF_35_3, tyA_33, tyS_33, tyF_35_4] | (with_reducible refine aIf_split (fun _ => ?_) (fun _ => ?_)) | (with_reducible refine aSel_split (fun _ => ?_) (fun _ => ?_)) | (with_reducible refine aGd_split (fun _ => ?_) (fun _ => ?_)) | (with_reducible refine aDraw_quiet (by kernel_rfl) ?_) | ((with_reducible apply callO (g := 47)); exact (ownI64_A _ hl1); exact (.inr ints_plain)) | ((with_reducible apply callO (g := 48)); exact (ownI_A _ hl2); exact (.inr ints_plain)) | ((with_reducible apply callO (g := 48)); exact (ownI_A _ hl3); exact (.inr ints_plain)) | (with_reducible apply And.intro)))
      all_goals exact aTo_mk (weak_ren1 [0, 1, 2, 3, 4, 5, 6, 7] ⟨(by decide), (by (first | ((simp only [envInR, tabInR, envLt, tabLt, AObj.lt, AV.lt, AV.ltL, AV.ren, AV.renL, AObj.ren, List.getD_cons_zero, List.getD_cons_succ, List.length_cons, List.length_nil, ruW, ASt.get, aget, ↓reduceIte, reduceCtorEq, Nat.reduceLT, Nat.reduceEqDiff, Nat.reduceAdd, eq_self]) <;> (repeat' apply And.intro) <;> first | (rw [wrapK (by omega)]; done) | (simp; done) | omega) | fail))⟩) rfl
    · rintro _ rfl
      have es0 : setVals x.sets vv s.vals 0 = s.vals := rfl
      (repeat' (first | simp (maxSteps := 5000000) (implicitDefEqProofs := false) only [ruA, ruB, aEv, aTake, aLoad, aField, aLen, ASt.get, aget, ASt.put, ↓reduceIte, reduceCtorEq, Nat.reduceLT, Nat.reduceEqDiff, Nat.reduceAdd, Nat.reduceLeDiff, eq_self, ne_eq, aLenM, false_or, tyA_33, tyS_33, tyF_56_3, tyE_33] | (with_reducible refine aIf_split (fun _ => ?_) (fun _ => ?_)) | (with_reducible refine aSel_split (fun _ => ?_) (fun _ => ?_)) | (with_reducible refine aGd_split (fun _ => ?_) (fun _ => ?_))))
      refine aLoop_of (fun st' => ∃ k : Nat, k ≤ x.sets.length ∧ st' = ⟨81, [(3, .op 0 0 0), (4, .op 1 0 0), (5, .op 2 0 0), (6, .op 3 0 0), (7, .op 4 0 0), (29, sI x.sets), (30, eI (x.sets.length : Int)), (31, eI (k : Int))], [(0, some (.box 32 (eMod m))), (1, some (.box 35 [.osl 5, eI s.opn, eI s.don, .osl 6, .osl 7])), (2, some (.box 43 [eI (e : Int), eI vu, sI vv])), (3, some (.box 35 [.c (.slice none 0 0), eI 0, eI 0, .c (.slice none 0 0), .c (.slice none 0 0)])), (4, some (.box 56 (eEv x))), (5, some (.row 2 1 ((setVals x.sets vv s.vals k).map fun n => [eI n]))), (6, some (.row 3 1 (s.did.map fun n => [eI n]))), (7, some (.row 3 1 (s.cnt.map fun n => [eI n])))], 8⟩) (fun st' => x.sets.length - slotN st' 31) ⟨_, (weak_cut1 (by (first | ((simp only [envIn, tabIn, envLt, tabLt, AObj.lt, AV.lt, AV.ltL, ruW, ASt.get, aget, ↓reduceIte, Nat.reduceLT, Nat.reduceEqDiff, eq_self, es0]) <;> (repeat' apply And.intro) <;> first | (rw [wrapK (by omega)]; done) | (simp; done) | omega) | fail))), 0, Nat.zero_le _, rfl⟩ ?_
      rintro _ ⟨k, hk, rfl⟩
      have hsl := setVals_len x.sets vv s.vals k
      by_cases hk2 : k < x.sets.length
      · have hkv : k < vv.length := by omega
        obtain ⟨a, ha⟩ : ∃ a, x.sets[k] = a := ⟨_, rfl⟩
        by_cases hin : 0 ≤ a ∧ a < ((setVals x.sets vv s.vals k).length : Int)
        · obtain ⟨q, rfl⟩ : ∃ q : Nat, a = (q : Int) := ⟨a.toNat, by omega⟩
          have hq : q < (setVals x.sets vv s.vals k).length := by omega
          have ev : setVals x.sets vv s.vals (k + 1) = (setVals x.sets vv s.vals k).set q vv[k] := by
            rw [setVals]
            simp only [List.getD_eq_getElem?_getD, List.getElem?_eq_getElem hk2, List.getElem?_eq_getElem hkv, Option.getD_some, ha]
            rw [if_pos (by omega)]
            rfl
          have es : ((setVals x.sets vv s.vals k).map fun n => [eI n]).set q [eI vv[k]] = (setVals x.sets vv s.vals (k + 1)).map fun n => [eI n] := by rw [ev, List.map_set]
          have hq1 : decide ((q : Int) < (((setVals x.sets vv s.vals k).length : Nat) : Int)) = true := by simp; omega
          (repeat' (first | simp (maxSteps := 5000000) (implicitDefEqProofs := false) only [ruA, ruB, aEv, aTake, aLoad, aField, aIndex, aLen, aBin, bin2, ASt.get, aget, ASt.put, ↓reduceIte, reduceCtorEq, Nat.reduceLT, Nat.reduceEqDiff, Nat.reduceAdd, Nat.reduceLeDiff, eq_self, ne_eq, aLenM, false_or, tyA_3, tyS_3, tyF_35_0, tyA_23, tyS_23, tyE_33, tyE_23, row_at, hk2, ha] | (with_reducible refine aIf_split (fun _ => ?_) (fun _ => ?_)) | (with_reducible refine aSel_split (fun _ => ?_) (fun _ => ?_)) | (with_reducible refine aGd_split (fun _ => ?_) (fun _ => ?_))))
          · refine aDraw_held [5] [0, 1, 2, 3, 4, 5, 6, 7, 8] (.exec 9 .done) (by kernel_rfl) (by simp [ATab.get_cons]) ?_
            (repeat' (first | simp (maxSteps := 5000000) (implicitDefEqProofs := false) only [ruA, ruB, aEv, aTake, aLoad, aField, aIndex, aBin, bin2, ASt.get, aget, ASt.put, aCells, oneC, oneCL, treeC, treeL, Value.cells, Value.oneCell', ↓reduceIte, reduceCtorEq, Nat.reduceLT, Nat.reduceEqDiff, Nat.reduceAdd, Nat.reduceLeDiff, eq_self, aExecS, aStoreB, aTakes, aFrom, aMay, tyF_35_0, tyA_23, tyS_23, tyE_23, tyF_43_2, tyA_2, tyS_2, row_at, hkv, hq] | (with_reducible refine aIf_split (fun _ => ?_) (fun _ => ?_)) | (with_reducible refine aSel_split (fun _ => ?_) (fun _ => ?_)) | (with_reducible refine aGd_split (fun _ => ?_) (fun _ => ?_))))
            exact roundI (weak_cut1 (by (first | ((simp only [envIn, tabIn, envLt, tabLt, AObj.lt, AV.lt, AV.ltL, ruW, ASt.get, aget, ↓reduceIte, reduceCtorEq, Nat.reduceLT, Nat.reduceEqDiff, eq_self, es]) <;> (repeat' apply And.intro) <;> first | (rw [wrapK (by omega)]; done) | (simp; done) | omega) | fail))) ⟨k + 1, by omega, rfl⟩ (by simp only [slotN, ruW, ASt.get, aget, ↓reduceIte, Nat.reduceLT, Nat.reduceEqDiff, eq_self]; omega)
          · rename_i h
            simp at h
            omega
        · have ev : setVals x.sets vv s.vals (k + 1) = setVals x.sets vv s.vals k := by
            rw [setVals]
            simp only [List.getD_eq_getElem?_getD, List.getElem?_eq_getElem hk2, Option.getD_some, ha]
            rw [if_neg hin]
          (repeat' (first | simp (maxSteps := 5000000) (implicitDefEqProofs := false) only [ruA, ruB, aEv, aTake, aLoad, aField, aIndex, aLen, aBin, bin2, ASt.get, aget, ASt.put, ↓reduceIte, reduceCtorEq, Nat.reduceLT, Nat.reduceEqDiff, Nat.reduceAdd, Nat.reduceLeDiff, eq_self, ne_eq, aLenM, false_or, tyA_3, tyS_3, tyF_35_0, tyA_23, tyS_23, tyE_33, tyE_23, row_at, hk2, ha] | (with_reducible refine aIf_split (fun _ => ?_) (fun _ => ?_)) | (with_reducible refine aSel_split (fun _ => ?_) (fun _ => ?_)) | (with_reducible refine aGd_split (fun _ => ?_) (fun _ => ?_))))
          all_goals first
            | exact roundI (weak_cut1 (by (first | ((simp only [envIn, tabIn, envLt, tabLt, AObj.lt, AV.lt, AV.ltL, ruW, ASt.get, aget, ↓reduceIte, Nat.reduceLT, Nat.reduceEqDiff, eq_self, ev]) <;> (repeat' apply And.intro) <;> first | (rw [wrapK (by omega)]; done) | (simp; done) | omega) | fail))) ⟨k + 1, by omega, rfl⟩ (by simp only [slotN, ruW, ASt.get, aget, ↓reduceIte, Nat.reduceLT, Nat.reduceEqDiff, eq_self]; omega)
            | (exfalso; simp at *; omega)
      · obtain rfl : k = x.sets.length := by omega
        (repeat' (first | simp (maxSteps := 5000000) (implicitDefEqProofs := false) only [ruA, ruB, aEv, aBin, bin2, ASt.get, aget, ASt.put, ↓reduceIte, Nat.reduceLT, Nat.reduceEqDiff, eq_self, hk2] | (with_reducible refine aIf_split (fun _ => ?_) (fun _ => ?_)) | (with_reducible refine aSel_split (fun _ => ?_) (fun _ => ?_)) | (with_reducible refine aGd_split (fun _ => ?_) (fun _ => ?_))))
        refine aDraw_held [6] [0, 1, 2, 3, 4, 5, 6, 7, 8, 10, 11] (.exec 9 (.exec 12 (.take 13 (.exec 14 .done)))) (by kernel_rfl) (by simp [ATab.get_cons]) ?_
        have eds : ((s.did.map fun n => [eI n]).set e [eI (withB s.did[e] vu)]) = (s.did.set e (withB s.did[e] vu)).map fun n => [eI n] := by rw [List.map_set]
        (repeat' (first | simp (maxSteps := 5000000) (implicitDefEqProofs := false) only [ruA, ruB, aEv, aTake, aLoad, aField, aIndex, aBin, bin2, ASt.get, aget, ASt.put, aStore, aBinS, aCells, oneC, oneCL, treeC, treeL, Value.cells, Value.oneCell', aResL, aOne, ↓reduceIte, reduceCtorEq, Nat.reduceLT, Nat.reduceEqDiff, Nat.reduceAdd, Nat.reduceLeDiff, eq_self, aExecS, aStoreB, aTakes, aTakeE, aFrom, aNilS, aMay, tyA_35, tyS_35, tyF_43_0, tyA_3, tyS_3, tyF_35_3, tyA_33, tyS_33, tyF_35_4, tyE_33, tyK_3, tyF_43_1, tyF_56_4, row_at, hd] | (with_reducible refine aIf_split (fun _ => ?_) (fun _ => ?_)) | (with_reducible refine aSel_split (fun _ => ?_) (fun _ => ?_)) | (with_reducible refine aGd_split (fun _ => ?_) (fun _ => ?_)) | (with_reducible refine aDraw_quiet (by kernel_rfl) ?_) | ((with_reducible apply callV (g := 49)); exact (with_A _ _)) | ((with_reducible apply callD (g := 49)); exact (with_A _ _))))
        · rename_i ht
          have ht : 0 < x.times := by simpa using ht
          have hw' := hw ht
          have ew : IntKind.i64.wrap (s.cnt[e] + 1) = s.cnt[e] + 1 := wrap_in (by omega) (by omega)
          (repeat' (first | simp (maxSteps := 5000000) (implicitDefEqProofs := false) only [ruB, oneC, oneCL, treeC, treeL, Value.oneCell', ↓reduceIte, eq_self, row_at, hc, ew] | (with_reducible refine aIf_split (fun _ => ?_) (fun _ => ?_)) | (with_reducible refine aSel_split (fun _ => ?_) (fun _ => ?_)) | (with_reducible refine aGd_split (fun _ => ?_) (fun _ => ?_))))
          rw [if_pos ht]
          exact ⟨[5, 6, 7], by decide, rfl, by simp [aTabs, ATab.get_cons, List.map_set]⟩
        · rename_i ht
          have ht : ¬ 0 < x.times := by simp at ht; omega
          rw [if_neg ht]
          exact ⟨[5, 6, 7], by decide, rfl, by simp [aTabs, ATab.get_cons, List.map_set]⟩
  · simp [Res.frzs, Res.frz, ATab.get_cons, AV.frz, AV.frzL, frzTab, AObj.frz]
noncomputable def anyM (m : Mod) (s : St) : Bool := anyN (fun e => anyN (fun u => enabledM m s (e : Int) (u : Int)) m.users.length) m.events.length
def setsLen (m : Mod) (event : Int) : Nat := ((m.events[event.toNat]?).map (fun x => x.sets.length)).getD 0
noncomputable def mayM (m : Mod) (s : St) (v : Mv) : Int :=
  if chkS m s = false then 15 else if idleM v = true then (if anyM m s = true then 16 else 0) else if enabledM m s v.event v.user = false then 16 else if v.vals.length = setsLen m v.event then 0 else 17
theorem evAt_some {m : Mod} {s : St} {event user : Int} (h : enabledM m s event user = true) : ∃ k : Nat, event = (k : Int) ∧ ∃ h : k < m.events.length, evAt m event = some m.events[k] := by
  unfold enabledM freeM at h
  unfold evAt at h ⊢
  by_cases h0 : 0 ≤ event
  · rw [if_pos h0] at h ⊢
    cases hk : m.events[event.toNat]? with
    | none => rw [hk] at h; simp at h
    | some x =>
      obtain ⟨h1, h2⟩ := List.getElem?_eq_some_iff.1 hk
      exact ⟨event.toNat, by omega, h1, by rw [h2]⟩
  · rw [if_neg h0] at h
    simp at h
set_option maxRecDepth 100000 in
set_option maxHeartbeats 8000000 in
theorem may_A (m : Mod) (s : St) (v : Mv) (hf : Fit m) (hany : idleM v = true → ADet Try.prog 44 [.agg (eMod m), .agg (eSt s)] (val (.bool (anyM m s)))) : ADet Try.prog 25 [.agg (eMod m), .agg (eSt s), .agg (eMv v)] (val (.int .i64 (mayM m s v))) := by
  refine adet_of_code mixedT Try.func25 rfl (by decide) Try.ntmps25 Try.results25 rfl (val_ok _) ?_
  obtain ⟨hgl, hml, hsl, hel, hal, hul, hrl, hsol, hol, hil⟩ := id hf.sizes
  obtain ⟨ve, vu, vv⟩ := v
  cases hid : idleM ⟨ve, vu, vv⟩ with
  | true =>
    unfold mayM
    simp only [hid]
    (repeat' (first | simp (maxSteps := 5000000) (implicitDefEqProofs := false) only [ruA, ruB, aEv, aTake, aLoad, aUn, un1, ASt.get, aget, ASt.put, aBox, aCells, oneC, oneCL, Value.oneCell', envOf, aResL, aOne, ↓reduceIte, reduceCtorEq, Nat.reduceLT, Nat.reduceEqDiff, Nat.reduceAdd, eq_self, tyA_32, tyS_32, tyA_35, tyS_35, tyA_43, tyS_43, hid] | (with_reducible refine aIf_split (fun _ => ?_) (fun _ => ?_)) | (with_reducible refine aSel_split (fun _ => ?_) (fun _ => ?_)) | (with_reducible refine aGd_split (fun _ => ?_) (fun _ => ?_)) | (with_reducible refine aDraw_quiet (by kernel_rfl) ?_) | ((with_reducible apply callV (g := 22)); exact (checkS_A _ _ (by omega))) | ((with_reducible apply callD (g := 22)); exact (checkS_A _ _ (by omega))) | ((with_reducible apply callV (g := 26)); exact (idle_A ⟨ve, vu, vv⟩)) | ((with_reducible apply callD (g := 26)); exact (idle_A ⟨ve, vu, vv⟩)) | ((with_reducible apply callV); exact (hany hid)) | ((with_reducible apply callD); exact (hany hid))))
    all_goals grind
  | false =>
    cases hen : enabledM m s ve vu with
    | false =>
      unfold mayM
      simp only [hid, hen]
      (repeat' (first | simp (maxSteps := 5000000) (implicitDefEqProofs := false) only [ruA, ruB, aEv, aTake, aLoad, aField, aUn, un1, ASt.get, aget, ASt.put, aBox, aCells, oneC, oneCL, Value.oneCell', envOf, aResL, aOne, ↓reduceIte, reduceCtorEq, Nat.reduceLT, Nat.reduceEqDiff, Nat.reduceAdd, Nat.reduceLeDiff, eq_self, tyA_32, tyS_32, tyA_35, tyS_35, tyA_43, tyS_43, tyF_43_0, tyA_3, tyS_3, tyF_43_1, hid, hen] | (with_reducible refine aIf_split (fun _ => ?_) (fun _ => ?_)) | (with_reducible refine aSel_split (fun _ => ?_) (fun _ => ?_)) | (with_reducible refine aGd_split (fun _ => ?_) (fun _ => ?_)) | (with_reducible refine aDraw_quiet (by kernel_rfl) ?_) | ((with_reducible apply callV (g := 22)); exact (checkS_A _ _ (by omega))) | ((with_reducible apply callD (g := 22)); exact (checkS_A _ _ (by omega))) | ((with_reducible apply callV (g := 26)); exact (idle_A ⟨ve, vu, vv⟩)) | ((with_reducible apply callD (g := 26)); exact (idle_A ⟨ve, vu, vv⟩)) | ((with_reducible apply callV (g := 43)); exact (enabled_A m s ve vu (by omega) (by omega))) | ((with_reducible apply callD (g := 43)); exact (enabled_A m s ve vu (by omega) (by omega)))))
      all_goals grind
    | true =>
      obtain ⟨k, rfl, hk, hk2⟩ := evAt_some hen
      have hsl : setsLen m (k : Int) = m.events[k].sets.length := by simp [setsLen, hk]
      unfold mayM
      simp only [hid, hen, hsl]
      (repeat' (first | simp (maxSteps := 5000000) (implicitDefEqProofs := false) only [ruA, ruB, aEv, aTake, aLoad, aField, aIndex, aLen, aBin, bin2, aUn, un1, ASt.get, aget, ASt.put, aBox, aCells, oneC, oneCL, Value.oneCell', envOf, aResL, aOne, ↓reduceIte, reduceCtorEq, Nat.reduceLT, Nat.reduceEqDiff, Nat.reduceAdd, Nat.reduceLeDiff, eq_self, ne_eq, tyA_32, tyS_32, tyA_35, tyS_35, tyA_43, tyS_43, tyF_43_0, tyA_3, tyS_3, tyF_43_1, tyF_43_2, tyA_23, tyS_23, tyE_23, tyF_32_5, tyA_26, tyS_26, tyE_26, tyF_56_3, tyA_33, tyS_33, tyE_33, hid, hen, row_at, hk] | (with_reducible refine aIf_split (fun _ => ?_) (fun _ => ?_)) | (with_reducible refine aSel_split (fun _ => ?_) (fun _ => ?_)) | (with_reducible refine aGd_split (fun _ => ?_) (fun _ => ?_)) | (with_reducible refine aDraw_quiet (by kernel_rfl) ?_) | ((with_reducible apply callV (g := 22)); exact (checkS_A _ _ (by omega))) | ((with_reducible apply callD (g := 22)); exact (checkS_A _ _ (by omega))) | ((with_reducible apply callV (g := 26)); exact (idle_A ⟨(k : Int), vu, vv⟩)) | ((with_reducible apply callD (g := 26)); exact (idle_A ⟨(k : Int), vu, vv⟩)) | ((with_reducible apply callV (g := 43)); exact (enabled_A m s (k : Int) vu (by omega) (by omega))) | ((with_reducible apply callD (g := 43)); exact (enabled_A m s (k : Int) vu (by omega) (by omega)))))
      all_goals grind
def stNil : St := ⟨[], 0, 0, [], []⟩
noncomputable def doM (m : Mod) (s : St) (v : Mv) : St × Int :=
  if mayM m s v = 0 then (if idleM v = true then s else passM m v.event (takeM m s v) m.order.length, 0) else (stNil, mayM m s v)
theorem retT {r' av : AV} {st : ASt} (hr : av.ren [] = av) (hl : av.lt 0) (hf : FitsT av r') : ∃ R : Res, (∃ ids, (R.frzs ids).r.lt 0 ∧ FitsT (R.frzs ids).r r') ∧ R.Ok ∧ aGives R st av := ⟨⟨av, [], 0⟩, ⟨[], hl, hf⟩, ⟨fun id o h => (by cases h), hl⟩, gives_tree hr⟩
theorem take_vals (m : Mod) (s : St) (v : Mv) (hs : ∀ x ∈ s.vals, ok64 x) (hv : ∀ x ∈ v.vals, ok64 x) : ∀ x ∈ (takeM m s v).vals, ok64 x := by
  unfold takeM
  split
  · exact hs
  · rename_i x hx
    simp only
    generalize x.sets.length = n
    induction n with
    | zero => exact hs
    | succ k ih =>
      unfold setVals
      simp only
      split
      · intro y hy
        rcases List.mem_or_eq_of_mem_set hy with h | h
        · exact ih y h
        · rw [h, List.getD_eq_getElem?_getD]
          by_cases hk : k < v.vals.length
          · rw [List.getElem?_eq_getElem hk]
            exact hv _ (List.getElem_mem hk)
          · rw [List.getElem?_eq_none (by omega)]
            unfold ok64
            simp
      · exact ih
set_option maxRecDepth 100000 in
set_option maxHeartbeats 8000000 in
theorem do_A (m : Mod) (s : St) (v : Mv) (hf : Fit m) (hfs : FitS s) (hvl : v.vals.length ≤ 1000000) (hc : condOk m) (hp : ∀ p ∈ m.stages, ok64 p.2) (hs : ∀ x ∈ s.vals, ok64 x) (hv : ∀ x ∈ v.vals, ok64 x) (ht : ∀ e ∈ m.events, ok64 e.times)
    (hany : idleM v = true → ADet Try.prog 44 [.agg (eMod m), .agg (eSt s)] (val (.bool (anyM m s)))) : ADet Try.prog 10 [.agg (eMod m), .agg (eSt s), .agg (eMv v)] ⟨.tup [.agg (eSt (doM m s v).1), eI (doM m s v).2], [], 0⟩ := by
  refine ARel.tree (Post := fun R => ∃ ids, (R.frzs ids).r.lt 0 ∧ FitsT (R.frzs ids).r (.tup [.agg (eSt (doM m s v).1), eI (doM m s v).2])) ?_ (by simp [AV.lt, AV.ltL]) fun R h => h
  refine arel_of_code mixedT Try.func10 rfl (by decide) Try.ntmps10 Try.results10 rfl ?_
  have hmay := may_A m s v hf hany
  have hnil : FitsT (.tup [.agg [.c (.slice none 0 0), eI 0, eI 0, .c (.slice none 0 0), .c (.slice none 0 0)], eI (mayM m s v)]) (.tup [.agg (eSt stNil), eI (mayM m s v)]) := .tup ⟨.agg ⟨.nil 1, .refl _, .refl _, .nil 1, .nil 1, trivial⟩, .one (.refl _), trivial⟩
  have hz : ((0 : Int) != 0) = false := by decide
  by_cases h0 : mayM m s v = 0
  · cases hid : idleM v with
    | true =>
      have ed : doM m s v = (s, 0) := by simp [doM, h0, hid]
      rw [ed]
      (repeat' (first | simp (maxSteps := 5000000) (implicitDefEqProofs := false) only [ruA, ruB, aEv, aTake, aLoad, aBin, bin2, ASt.get, aget, ASt.put, aStore, aBox, aCells, oneC, oneCL, Value.cells, Value.oneCell', envOf, aResL, aOne, ↓reduceIte, reduceCtorEq, Nat.reduceLT, Nat.reduceEqDiff, Nat.reduceAdd, eq_self, tyA_35, tyS_35, tyZ_35, tyA_32, tyS_32, tyA_43, tyS_43, h0, hz, hid] | (with_reducible refine aIf_split (fun _ => ?_) (fun _ => ?_)) | (with_reducible refine aSel_split (fun _ => ?_) (fun _ => ?_)) | (with_reducible refine aGd_split (fun _ => ?_) (fun _ => ?_)) | (with_reducible refine aDraw_quiet (by kernel_rfl) ?_) | ((with_reducible apply callV); exact (hmay)) | ((with_reducible apply callD); exact (hmay)) | ((with_reducible apply callV (g := 26)); exact (idle_A v)) | ((with_reducible apply callD (g := 26)); exact (idle_A v))))
      all_goals first
        | exact retT (by simp [AV.ren, AV.renL]) (by simp [AV.lt, AV.ltL]) (.tup ⟨.one (.refl _), .one (.refl _), trivial⟩)
        | trace_state
    | false =>
      have ed : doM m s v = (passM m v.event (takeM m s v) m.order.length, 0) := by simp [doM, h0, hid]
      rw [ed]
      have hen : enabledM m s v.event v.user = true ∧ v.vals.length = setsLen m v.event ∧ chkS m s = true := by
        unfold mayM at h0
        grind
      obtain ⟨k, hke, hk, hk2⟩ := evAt_some hen.1
      have hsl : setsLen m v.event = m.events[k].sets.length := by simp [setsLen, hk, hke]
      obtain ⟨hl1, hl2, hl3⟩ := hfs
      have hck := hen.2.2
      unfold chkS at hck
      simp only [Bool.and_eq_true, decide_eq_true_eq] at hck
      obtain ⟨⟨⟨⟨⟨hc1, hc2⟩, hc3⟩, -⟩, -⟩, hall⟩ := hck
      have hd : k < s.did.length := by omega
      have hcn : k < s.cnt.length := by omega
      have hat := (allN_iff _ _).1 hall k hk
      simp only [chkAt, List.getD_eq_getElem?_getD, List.getElem?_eq_getElem hd, List.getElem?_eq_getElem hcn, List.getElem?_eq_getElem hk, Option.getD_some, Option.map_some, Bool.and_eq_true, decide_eq_true_eq] at hat
      have hfree : 0 < m.events[k].times → s.cnt[k] < m.events[k].times := fun h1 => by
        have h2 := hen.1
        unfold enabledM freeM at h2
        rw [hk2] at h2
        simp only [Bool.and_eq_true, Bool.or_eq_true, decide_eq_true_eq] at h2
        have h3 := h2.1.2
        unfold atI at h3
        rw [hke, if_pos (by omega)] at h3
        simp only [Int.toNat_natCast, List.getD_eq_getElem?_getD, List.getElem?_eq_getElem hcn, Option.getD_some] at h3
        omega
      have htm := ht _ (List.getElem_mem hk)
      unfold ok64 at htm
      have htk := take_A m s v k m.events[k] hke hk rfl hd hcn (by omega) (by omega) (by omega) (by omega) (by omega) (fun h1 => by have := hfree h1; omega)
      have hps := pass_A m (takeM m s v) v.event hf hc hp (take_vals m s v hs hv)
      (repeat' (first | simp (maxSteps := 5000000) (implicitDefEqProofs := false) only [ruA, ruB, aEv, aTake, aLoad, ASt.get, aget, ASt.put, aBox, aCells, oneC, oneCL, Value.cells, Value.oneCell', envOf, ↓reduceIte, reduceCtorEq, Nat.reduceLT, Nat.reduceEqDiff, Nat.reduceAdd, eq_self, tyA_35, tyS_35, tyZ_35, tyA_32, tyS_32, tyA_43, tyS_43] | (with_reducible refine aIf_split (fun _ => ?_) (fun _ => ?_)) | (with_reducible refine aSel_split (fun _ => ?_) (fun _ => ?_)) | (with_reducible refine aGd_split (fun _ => ?_) (fun _ => ?_))))
      refine callV hmay ?_
      (repeat' (first | simp (maxSteps := 5000000) (implicitDefEqProofs := false) only [ruA, ruB, aEv, aTake, aLoad, aBin, bin2, ASt.get, aget, ASt.put, ↓reduceIte, Nat.reduceLT, Nat.reduceEqDiff, Nat.reduceAdd, eq_self, tyA_43, tyS_43, h0, hz] | (with_reducible refine aIf_split (fun _ => ?_) (fun _ => ?_)) | (with_reducible refine aSel_split (fun _ => ?_) (fun _ => ?_)) | (with_reducible refine aGd_split (fun _ => ?_) (fun _ => ?_))))
      refine callV (by exact idle_A v) ?_
      (repeat' (first | simp (maxSteps := 5000000) (implicitDefEqProofs := false) only [ruA, aEv, ASt.get, aget, ASt.put, ↓reduceIte, Nat.reduceLT, eq_self, hid] | (with_reducible refine aIf_split (fun _ => ?_) (fun _ => ?_)) | (with_reducible refine aSel_split (fun _ => ?_) (fun _ => ?_)) | (with_reducible refine aGd_split (fun _ => ?_) (fun _ => ?_))))
      refine aDraw_held [3] [0, 1, 2, 3, 5, 6] (.exec 4 (.exec 7 (.exec 8 (.exec 9 .done)))) (by kernel_rfl) (by simp [ATab.get_cons]) ?_
      (repeat' (first | simp (maxSteps := 5000000) (implicitDefEqProofs := false) only [ruA, ruB, aEv, aTake, aLoad, aField, ASt.get, aget, ASt.put, aCells, oneC, oneCL, Value.oneCell', aResL, aOne, ↓reduceIte, reduceCtorEq, Nat.reduceLT, Nat.reduceEqDiff, Nat.reduceAdd, Nat.reduceLeDiff, eq_self, aExecS, aStoreB, aTakes, aFrom, AV.shift, AV.shiftL, aMay, tyA_35, tyS_35, tyA_32, tyS_32, tyA_43, tyS_43, tyF_43_0, tyA_3, tyS_3] | (with_reducible refine aIf_split (fun _ => ?_) (fun _ => ?_)) | (with_reducible refine aSel_split (fun _ => ?_) (fun _ => ?_)) | (with_reducible refine aGd_split (fun _ => ?_) (fun _ => ?_)) | (with_reducible refine aDraw_quiet (by kernel_rfl) ?_) | ((with_reducible apply callT); exact (htk); exact (.inl (by simp [roL, roA, treeL, treeC]))) | ((with_reducible apply callT); exact (hps); exact (.inl (by simp [roL, roA, treeL, treeC])))))
      all_goals first
        | exact retT (by simp [AV.ren, AV.renL]) (by simp [AV.lt, AV.ltL]) (.tup ⟨.one (.refl _), .one (.refl _), trivial⟩)
        | trace_state
  · have ed : doM m s v = (stNil, mayM m s v) := by simp [doM, h0]
    have h0' : (mayM m s v != 0) = true := by simp [h0]
    rw [ed]
    (repeat' (first | simp (maxSteps := 5000000) (implicitDefEqProofs := false) only [ruA, ruB, aEv, aTake, aLoad, aBin, bin2, ASt.get, aget, ASt.put, aStore, aBox, aBuild, aFill, oneParts, aCells, oneC, oneCL, Value.cells, Value.oneCell', envOf, aResL, aOne, ↓reduceIte, reduceCtorEq, Nat.reduceLT, Nat.reduceEqDiff, Nat.reduceAdd, eq_self, tyA_35, tyS_35, tyZ_35, tyA_32, tyS_32, tyA_43, tyS_43, tyB_35, h0'] | (with_reducible refine aIf_split (fun _ => ?_) (fun _ => ?_)) | (with_reducible refine aSel_split (fun _ => ?_) (fun _ => ?_)) | (with_reducible refine aGd_split (fun _ => ?_) (fun _ => ?_)) | (with_reducible refine aDraw_quiet (by kernel_rfl) ?_) | ((with_reducible apply callV); exact (hmay)) | ((with_reducible apply callD); exact (hmay)) | ((with_reducible apply callV (g := 26)); exact (idle_A v)) | ((with_reducible apply callD (g := 26)); exact (idle_A v))))
    all_goals first
      | exact retT (by simp [AV.ren, AV.renL]) (by simp [AV.lt, AV.ltL]) hnil
      | trace_state
end
end Go.Proofs.Ytcindbpnaicemaa
