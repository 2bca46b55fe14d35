/-
  Parts of the proof: SoK, SoM, SoN, SoO, ZC, ZD, ZE.
-/
import Derived.Test.YtmcegfoaceilgaaGreatNof14
set_option linter.unusedVariables false
set_option linter.unusedSimpArgs false
namespace Go.Proofs.YtmcegfoaceilgaaGreat
section
open Go.RowKit
theorem clsTy : (Tryz.prog.fieldsOf 58).toList.map (fun f => (f.name, f.type, f.offset)) = [("Attrs", 3, 0), ("Const", 3, 1)] := by kernel_rfl
theorem clsBin (op : BinOp) (hop : op = .eql ∨ op = .neq) (a b : Cls) : BinRun Tryz.prog op 58 (.agg #[.int .i64 a.attrs, .int .i64 a.const]) (.agg #[.int .i64 b.attrs, .int .i64 b.const]) (.bool (if op matches .eql then (a.attrs == b.attrs && a.const == b.const) else !(a.attrs == b.attrs && a.const == b.const))) := by
  have ht := clsTy
  obtain ⟨f, g, hfs⟩ : ∃ f g, (Tryz.prog.fieldsOf 58).toList = [f, g] := by
    generalize (Tryz.prog.fieldsOf 58).toList = l at ht ⊢
    cases l with
    | nil => simp at ht
    | cons f l => cases l with
      | nil => simp at ht
      | cons g l => cases l with
        | nil => exact ⟨f, g, rfl⟩
        | cons h l => simp at ht
  rw [hfs] at ht
  simp only [List.map_cons, List.map_nil, List.cons.injEq, Prod.mk.injEq, and_true] at ht
  obtain ⟨⟨h1, h2, h3⟩, h4, h5, h6⟩ := ht
  refine structRun [(.int .i64 a.attrs, .int .i64 b.attrs), (.int .i64 a.const, .int .i64 b.const)] (by kernel_rfl) (by kernel_rfl) (by kernel_rfl) (by rw [hfs]; rfl) (fun k f' p hk hp => ?_) (by simp [cellsEq, cellEq]) hop
  rw [hfs] at hk
  match k, hk, hp with
  | 0, hk, hp =>
    cases hk
    cases hp
    refine ⟨by rw [h1]; decide, ?_, by rw [h3]; rfl, by rw [h3]; rfl⟩
    rw [h2]
    kernel_rfl
  | 1, hk, hp =>
    cases hk
    cases hp
    refine ⟨by rw [h4]; decide, ?_, by rw [h6]; rfl, by rw [h6]; rfl⟩
    rw [h5]
    kernel_rfl
  | k + 2, hk, hp => simp at hk
instance : DecidableEq Cls := fun a b => decidable_of_iff (a.attrs = b.attrs ∧ a.const = b.const) (by cases a; cases b; simp)
theorem clsNe (x y : Cls) : BinRun Tryz.prog .neq 58 (.agg #[.int .i64 x.attrs, .int .i64 x.const]) (.agg #[.int .i64 y.attrs, .int .i64 y.const]) (.bool (decide (x ≠ y))) := by
  have h := clsBin .neq (.inr rfl) x y
  have e : decide (x ≠ y) = !(x.attrs == y.attrs && x.const == y.const) := by
    rw [Bool.eq_iff_iff]
    cases x
    cases y
    simp
  rw [e]
  exact h
theorem zn_ext {a b : Zn} (h1 : a.cls = b.cls) (h2 : a.gaps = b.gaps) : a = b := by
  cases a
  cases b
  simp at h1 h2
  rw [h1, h2]
theorem list_same {α : Type} {a b : List α} (hl : a.length = b.length) (h : ∀ i (h1 : i < a.length) (h2 : i < b.length), a[i] = b[i]) : a = b := List.ext_getElem hl h
set_option maxRecDepth 100000 in
set_option maxHeartbeats 8000000 in
theorem sameZ_A (a b : Zn) (h1 : a.cls.length ≤ 1000000) (h2 : a.gaps.length ≤ 1000000) : ARel Tryz.prog 27 [.agg (eZn a), .agg (eZn b)] fun R => ∃ t, R = val (.bool t) ∧ (t = true ↔ a = b) := by
  refine arel_of_code mixedT Tryz.func27 rfl (by decide) Tryz.ntmps27 Tryz.results27 rfl ?_
  have no1 : a.cls.length ≠ b.cls.length → ¬ a = b := fun h e => h (by rw [e])
  have no2 : a.gaps.length ≠ b.gaps.length → ¬ a = b := fun h e => h (by rw [e])
  by_cases hl1 : a.cls.length = b.cls.length
  · have d1 : ((a.cls.length : Int) != (b.cls.length : Int)) = false := by simp [hl1]
    by_cases hl2 : a.gaps.length = b.gaps.length
    · have d2 : ((a.gaps.length : Int) != (b.gaps.length : Int)) = false := by simp [hl2]
      (repeat' (first | simp (maxSteps := 5000000) (implicitDefEqProofs := false) only [ruA, ruB, aEv, aTake, aLoad, aField, aLen, aBin, bin2, ASt.get, aget, ASt.put, aBox, aCells, oneC, oneCL, envOf, ↓reduceIte, reduceCtorEq, Nat.reduceLT, Nat.reduceEqDiff, Nat.reduceAdd, Nat.reduceLeDiff, eq_self, ne_eq, tyF_41_0, tyA_39, tyS_39, tyE_39, tyF_41_1, tyA_33, tyS_33, tyE_33, d1, d2] | (with_reducible refine aIf_split (fun _ => ?_) (fun _ => ?_)) | (with_reducible refine aSel_split (fun _ => ?_) (fun _ => ?_)) | (with_reducible refine aGd_split (fun _ => ?_) (fun _ => ?_)) | (with_reducible refine aDraw_quiet (by kernel_rfl) ?_)))
      refine aLoop_of (fun st => ∃ k : Nat, k ≤ a.cls.length ∧ (∀ i (h1 : i < a.cls.length) (h2 : i < b.cls.length), i < k → a.cls[i] = b.cls[i]) ∧ st = ⟨59, [(2, .op 0 0 0), (3, .op 1 0 0), (5, eI (k : Int))], [(0, some (.box 41 (eZn a))), (1, some (.box 41 (eZn b)))], 2⟩) (fun st => a.cls.length - slotN st 5) ⟨_, (weak_cut1 (by (first | ((simp only [envIn, tabIn, envLt, tabLt, AObj.lt, AV.lt, AV.ltL, ruW, ASt.get, aget, ↓reduceIte, reduceCtorEq, Nat.reduceLT, Nat.reduceEqDiff, eq_self]) <;> (repeat' apply And.intro) <;> first | (rw [wrapK (by omega)]; done) | (simp; done) | omega) | fail))), 0, Nat.zero_le _, fun i _ _ h => by omega, rfl⟩ ?_
      rintro _ ⟨k, hk, hs, rfl⟩
      by_cases hlt : k < a.cls.length
      · have hlt2 : k < b.cls.length := by omega
        have hB := clsNe a.cls[k] b.cls[k]
        by_cases hxy : a.cls[k] = b.cls[k]
        · rw [decide_eq_false (by simpa using hxy)] at hB
          obtain ⟨x, hx⟩ : ∃ x, a.cls[k] = x := ⟨_, rfl⟩
          obtain ⟨y, hy⟩ : ∃ y, b.cls[k] = y := ⟨_, rfl⟩
          rw [hx, hy] at hB
          (repeat' (first | simp (maxSteps := 5000000) (implicitDefEqProofs := false) only [ruA, ruB, aEv, aTake, aLoad, aField, aIndex, aLen, aBin, bin2, ASt.get, aget, ASt.put, allC, aBinS, ↓reduceIte, reduceCtorEq, Nat.reduceLT, Nat.reduceEqDiff, Nat.reduceAdd, Nat.reduceLeDiff, eq_self, ne_eq, tyF_41_0, tyA_39, tyS_39, tyE_39, tyA_58, tyS_58, row_at, hlt, hlt2, hx, hy] | (with_reducible refine aIf_split (fun _ => ?_) (fun _ => ?_)) | (with_reducible refine aSel_split (fun _ => ?_) (fun _ => ?_)) | (with_reducible refine aGd_split (fun _ => ?_) (fun _ => ?_)) | (with_reducible refine aDraw_quiet (by kernel_rfl) ?_)))
          all_goals refine ⟨_, hB, ?_⟩
          all_goals (repeat' (first | simp (maxSteps := 5000000) (implicitDefEqProofs := false) only [ruA, aEv, aBin, bin2, ASt.get, aget, ASt.put, ↓reduceIte, Nat.reduceLT, Nat.reduceEqDiff, eq_self] | (with_reducible refine aIf_split (fun _ => ?_) (fun _ => ?_)) | (with_reducible refine aSel_split (fun _ => ?_) (fun _ => ?_)) | (with_reducible refine aGd_split (fun _ => ?_) (fun _ => ?_)) | (with_reducible refine aDraw_quiet (by kernel_rfl) ?_)))
          all_goals exact roundI (weak_cut1 (by (first | ((simp only [envIn, tabIn, envLt, tabLt, AObj.lt, AV.lt, AV.ltL, ruW, ASt.get, aget, ↓reduceIte, Nat.reduceLT, Nat.reduceEqDiff, eq_self]) <;> (repeat' apply And.intro) <;> first | (rw [wrapK (by omega)]; done) | (simp; done) | omega) | fail))) ⟨k + 1, by omega, fun i h1 h2 h3 => (by
            rcases Nat.lt_or_ge i k with h | h
            · exact hs i h1 h2 h
            · obtain rfl : i = k := by omega
              exact hxy), rfl⟩ (by simp only [slotN, ASt.get, aget, ↓reduceIte, Nat.reduceLT, Nat.reduceEqDiff, eq_self]; omega)
        · rw [decide_eq_true hxy] at hB
          have hno : ¬ a = b := fun e => hxy (by subst e; rfl)
          obtain ⟨x, hx⟩ : ∃ x, a.cls[k] = x := ⟨_, rfl⟩
          obtain ⟨y, hy⟩ : ∃ y, b.cls[k] = y := ⟨_, rfl⟩
          rw [hx, hy] at hB
          (repeat' (first | simp (maxSteps := 5000000) (implicitDefEqProofs := false) only [ruA, ruB, aEv, aTake, aLoad, aField, aIndex, aLen, aBin, bin2, ASt.get, aget, ASt.put, allC, aBinS, ↓reduceIte, reduceCtorEq, Nat.reduceLT, Nat.reduceEqDiff, Nat.reduceAdd, Nat.reduceLeDiff, eq_self, ne_eq, tyF_41_0, tyA_39, tyS_39, tyE_39, tyA_58, tyS_58, row_at, hlt, hlt2, hx, hy] | (with_reducible refine aIf_split (fun _ => ?_) (fun _ => ?_)) | (with_reducible refine aSel_split (fun _ => ?_) (fun _ => ?_)) | (with_reducible refine aGd_split (fun _ => ?_) (fun _ => ?_)) | (with_reducible refine aDraw_quiet (by kernel_rfl) ?_)))
          all_goals refine ⟨_, hB, ?_⟩
          all_goals (repeat' (first | simp (maxSteps := 5000000) (implicitDefEqProofs := false) only [ruA, aEv, ASt.get, aget, ASt.put, aResL, aOne, ↓reduceIte, Nat.reduceLT, eq_self] | (with_reducible refine aIf_split (fun _ => ?_) (fun _ => ?_)) | (with_reducible refine aSel_split (fun _ => ?_) (fun _ => ?_)) | (with_reducible refine aGd_split (fun _ => ?_) (fun _ => ?_)) | (with_reducible refine aDraw_quiet (by kernel_rfl) ?_)))
          all_goals exact retV ⟨false, rfl, by simp; exact hno⟩
      · have hcls : a.cls = b.cls := list_same hl1 fun i h1 h2 => hs i h1 h2 (by omega)
        (repeat' (first | simp (maxSteps := 5000000) (implicitDefEqProofs := false) only [ruA, ruB, aEv, aTake, aLoad, aField, aLen, aBin, bin2, ASt.get, aget, ASt.put, ↓reduceIte, reduceCtorEq, Nat.reduceLT, Nat.reduceEqDiff, Nat.reduceAdd, Nat.reduceLeDiff, eq_self, ne_eq, tyF_41_0, tyA_39, tyS_39, tyE_39, hlt] | (with_reducible refine aIf_split (fun _ => ?_) (fun _ => ?_)) | (with_reducible refine aSel_split (fun _ => ?_) (fun _ => ?_)) | (with_reducible refine aGd_split (fun _ => ?_) (fun _ => ?_)) | (with_reducible refine aDraw_quiet (by kernel_rfl) ?_)))
        refine aLoop_of (fun st => ∃ k : Nat, k ≤ a.gaps.length ∧ (∀ i (h1 : i < a.gaps.length) (h2 : i < b.gaps.length), i < k → a.gaps[i] = b.gaps[i]) ∧ st = ⟨59, [(2, .op 0 0 0), (3, .op 1 0 0), (6, eI (k : Int))], [(0, some (.box 41 (eZn a))), (1, some (.box 41 (eZn b)))], 2⟩) (fun st => a.gaps.length - slotN st 6) ⟨_, (weak_cut1 (by (first | ((simp only [envIn, tabIn, envLt, tabLt, AObj.lt, AV.lt, AV.ltL, ruW, ASt.get, aget, ↓reduceIte, Nat.reduceLT, Nat.reduceEqDiff, eq_self]) <;> (repeat' apply And.intro) <;> first | (rw [wrapK (by omega)]; done) | (simp; done) | omega) | fail))), 0, Nat.zero_le _, fun i _ _ h => by omega, rfl⟩ ?_
        rintro _ ⟨k, hk, hs2, rfl⟩
        by_cases hlt2 : k < a.gaps.length
        · have hlt3 : k < b.gaps.length := by omega
          by_cases hxy : a.gaps[k] = b.gaps[k]
          · have d3 : (a.gaps[k] != b.gaps[k]) = false := by simpa using hxy
            (repeat' (first | simp (maxSteps := 5000000) (implicitDefEqProofs := false) only [ruA, ruB, aEv, aTake, aLoad, aField, aIndex, aLen, aBin, bin2, ASt.get, aget, ASt.put, ↓reduceIte, reduceCtorEq, Nat.reduceLT, Nat.reduceEqDiff, eq_self, ne_eq, tyF_41_1, tyA_33, tyS_33, tyE_33, tyA_3, tyS_3, row_at, hlt2, hlt3, d3] | (with_reducible refine aIf_split (fun _ => ?_) (fun _ => ?_)) | (with_reducible refine aSel_split (fun _ => ?_) (fun _ => ?_)) | (with_reducible refine aGd_split (fun _ => ?_) (fun _ => ?_)) | (with_reducible refine aDraw_quiet (by kernel_rfl) ?_)))
            all_goals exact roundI (weak_cut1 (by (first | ((simp only [envIn, tabIn, envLt, tabLt, AObj.lt, AV.lt, AV.ltL, ruW, ASt.get, aget, ↓reduceIte, Nat.reduceLT, Nat.reduceEqDiff, eq_self]) <;> (repeat' apply And.intro) <;> first | (rw [wrapK (by omega)]; done) | (simp; done) | omega) | fail))) ⟨k + 1, by omega, fun i h1 h2 h3 => (by
              rcases Nat.lt_or_ge i k with h | h
              · exact hs2 i h1 h2 h
              · obtain rfl : i = k := by omega
                exact hxy), rfl⟩ (by simp only [slotN, ASt.get, aget, ↓reduceIte, Nat.reduceLT, Nat.reduceEqDiff, eq_self]; omega)
          · have d3 : (a.gaps[k] != b.gaps[k]) = true := by simpa using hxy
            have hno : ¬ a = b := fun e => hxy (by subst e; rfl)
            (repeat' (first | simp (maxSteps := 5000000) (implicitDefEqProofs := false) only [ruA, ruB, aEv, aTake, aLoad, aField, aIndex, aLen, aBin, bin2, ASt.get, aget, ASt.put, aResL, aOne, ↓reduceIte, reduceCtorEq, Nat.reduceLT, Nat.reduceEqDiff, eq_self, ne_eq, tyF_41_1, tyA_33, tyS_33, tyE_33, tyA_3, tyS_3, row_at, hlt2, hlt3, d3] | (with_reducible refine aIf_split (fun _ => ?_) (fun _ => ?_)) | (with_reducible refine aSel_split (fun _ => ?_) (fun _ => ?_)) | (with_reducible refine aGd_split (fun _ => ?_) (fun _ => ?_)) | (with_reducible refine aDraw_quiet (by kernel_rfl) ?_)))
            all_goals exact retV ⟨false, rfl, by simp; exact hno⟩
        · have hgaps : a.gaps = b.gaps := list_same hl2 fun i h1 h2 => hs2 i h1 h2 (by omega)
          (repeat' (first | simp (maxSteps := 5000000) (implicitDefEqProofs := false) only [ruA, ruB, aEv, aTake, aLoad, aField, aLen, aBin, bin2, ASt.get, aget, ASt.put, aResL, aOne, ↓reduceIte, reduceCtorEq, Nat.reduceLT, Nat.reduceEqDiff, eq_self, ne_eq, tyF_41_1, tyA_33, tyS_33, tyE_33, hlt2] | (with_reducible refine aIf_split (fun _ => ?_) (fun _ => ?_)) | (with_reducible refine aSel_split (fun _ => ?_) (fun _ => ?_)) | (with_reducible refine aGd_split (fun _ => ?_) (fun _ => ?_)) | (with_reducible refine aDraw_quiet (by kernel_rfl) ?_)))
          all_goals exact retV ⟨true, rfl, by simp; exact zn_ext hcls hgaps⟩
    · have d2 : ((a.gaps.length : Int) != (b.gaps.length : Int)) = true := by simp; omega
      (repeat' (first | simp (maxSteps := 5000000) (implicitDefEqProofs := false) only [ruA, ruB, aEv, aTake, aLoad, aField, aLen, aBin, bin2, ASt.get, aget, ASt.put, aBox, aCells, oneC, oneCL, envOf, aResL, aOne, ↓reduceIte, reduceCtorEq, Nat.reduceLT, Nat.reduceEqDiff, Nat.reduceAdd, Nat.reduceLeDiff, eq_self, ne_eq, tyF_41_0, tyA_39, tyS_39, tyE_39, tyF_41_1, tyA_33, tyS_33, tyE_33, d1, d2] | (with_reducible refine aIf_split (fun _ => ?_) (fun _ => ?_)) | (with_reducible refine aSel_split (fun _ => ?_) (fun _ => ?_)) | (with_reducible refine aGd_split (fun _ => ?_) (fun _ => ?_)) | (with_reducible refine aDraw_quiet (by kernel_rfl) ?_)))
      exact retV ⟨false, rfl, by simp; exact no2 hl2⟩
  · have d1 : ((a.cls.length : Int) != (b.cls.length : Int)) = true := by simp; omega
    (repeat' (first | simp (maxSteps := 5000000) (implicitDefEqProofs := false) only [ruA, ruB, aEv, aTake, aLoad, aField, aLen, aBin, bin2, ASt.get, aget, ASt.put, aBox, aCells, oneC, oneCL, envOf, aResL, aOne, ↓reduceIte, reduceCtorEq, Nat.reduceLT, Nat.reduceEqDiff, Nat.reduceAdd, Nat.reduceLeDiff, eq_self, ne_eq, tyF_41_0, tyA_39, tyS_39, tyE_39, d1] | (with_reducible refine aIf_split (fun _ => ?_) (fun _ => ?_)) | (with_reducible refine aSel_split (fun _ => ?_) (fun _ => ?_)) | (with_reducible refine aGd_split (fun _ => ?_) (fun _ => ?_)) | (with_reducible refine aDraw_quiet (by kernel_rfl) ?_)))
    exact retV ⟨false, rfl, by simp; exact no1 hl1⟩
end
section
open Go.RowKit
def andI (a b : Int) : Int := bits .and .i64 a b
/-- all attributes of some classes -/
def atts (l : List Cls) : Int := l.foldl (fun a x => orI a x.attrs) 0
/-- how many of some classes have a constant -/
def nextN (l : List Cls) : Nat := l.countP fun x => !(x.const == -1)
theorem atts_snoc (l : List Cls) (x : Cls) : atts (l ++ [x]) = orI (atts l) x.attrs := by simp [atts]
theorem nextN_snoc (l : List Cls) (x : Cls) : nextN (l ++ [x]) = nextN l + (if x.const = -1 then 0 else 1) := by
  unfold nextN
  rw [List.countP_append]
  by_cases h : x.const = -1 <;> simp [h]
theorem nextN_le (l : List Cls) : nextN l ≤ l.length := List.countP_le_length
/-- a class may lie behind others -/
def ClsOk (l : List Cls) (x : Cls) : Prop := 0 ≤ x.attrs ∧ andI x.attrs (atts l) = 0 ∧ ¬ (x.attrs = 0 ∧ x.const = -1) ∧ (x.const = -1 ∨ x.const = (nextN l : Int))
def FormedP (l : List Cls) (n k : Int) : Prop := (∀ i (h : i < l.length), ClsOk (l.take i) l[i]) ∧ atts l = firstI n ∧ (nextN l : Int) = k
set_option maxRecDepth 100000 in
set_option maxHeartbeats 8000000 in
theorem formed_A (z : Zn) (n k : Int) (h1 : z.cls.length ≤ 1000000) : ARel Tryz.prog 72 [.agg (eZn z), eI n, eI k] fun R => ∃ b, R = val (.bool b) ∧ (b = true ↔ FormedP z.cls n k) := by
  refine arel_of_code mixedT Tryz.func72 rfl (by decide) Tryz.ntmps72 Tryz.results72 rfl ?_
  (repeat' (first | simp (maxSteps := 5000000) (implicitDefEqProofs := false) only [ruA, ruB, aEv, aTake, aLoad, aField, aLen, ASt.get, aget, ASt.put, aBox, aCells, oneC, oneCL, envOf, ↓reduceIte, reduceCtorEq, Nat.reduceLT, Nat.reduceEqDiff, Nat.reduceAdd, Nat.reduceLeDiff, eq_self, ne_eq, tyF_41_0, tyA_39, tyS_39, tyE_39] | (with_reducible refine aIf_split (fun _ => ?_) (fun _ => ?_)) | (with_reducible refine aSel_split (fun _ => ?_) (fun _ => ?_)) | (with_reducible refine aGd_split (fun _ => ?_) (fun _ => ?_))))
  refine aLoop_of (fun st => ∃ (i : Nat) (a x : Int), i ≤ z.cls.length ∧ a = atts (z.cls.take i) ∧ x = (nextN (z.cls.take i) : Int) ∧ (∀ j (h : j < z.cls.length), j < i → ClsOk (z.cls.take j) z.cls[j]) ∧ st = ⟨61, [(1, eI n), (2, eI k), (7, eI a), (8, eI x), (12, .sl 2 (z.cls.map eCls)), (13, eI (z.cls.length : Int)), (14, eI (i : Int))], [], 0⟩) (fun st => z.cls.length - slotN st 14) ⟨_, (weak_cut1 (by (first | ((simp only [envIn, tabIn, envLt, tabLt, AV.lt, ruW, ASt.get, aget, ↓reduceIte, Nat.reduceLT, Nat.reduceEqDiff, eq_self]) <;> (repeat' apply And.intro) <;> first | (rw [wrapK (by omega)]; done) | (simp; done) | omega) | fail))), 0, 0, 0, Nat.zero_le _, rfl, rfl, fun j _ h => by omega, rfl⟩ ?_
  rintro _ ⟨i, a, x, hi, ha, hx, hok, rfl⟩
  by_cases hlt : i < z.cls.length
  · have htk : z.cls.take (i + 1) = z.cls.take i ++ [z.cls[i]] := List.take_succ_eq_append_getElem hlt
    have hno : ¬ ClsOk (z.cls.take i) z.cls[i] → ¬ FormedP z.cls n k := fun h h2 => h (h2.1 i hlt)
    have hnl : nextN (z.cls.take i) ≤ 1000000 := by have := nextN_le (z.cls.take i); rw [List.length_take] at this; omega
    have hok2 : ClsOk (z.cls.take i) z.cls[i] → ∀ j (h : j < z.cls.length), j < i + 1 → ClsOk (z.cls.take j) z.cls[j] := fun h j hj hji => by
      rcases Nat.lt_or_ge j i with h2 | h2
      · exact hok j hj h2
      · obtain rfl : j = i := by omega
        exact h
    have hat : atts (z.cls.take (i + 1)) = orI a z.cls[i].attrs := by rw [htk, atts_snoc, ha]
    have hnx : (nextN (z.cls.take (i + 1)) : Int) = x + (if z.cls[i].const = -1 then 0 else 1) := by rw [htk, nextN_snoc, hx]; split <;> simp
    unfold ClsOk at hno hok2
    rw [← ha, ← hx] at hno hok2
    clear hok htk
    generalize hc : z.cls[i] = c at *
    have c1 : ∀ b, decide (c.attrs < 0) = b → True := fun _ _ => trivial
    by_cases g1 : c.attrs < 0
    · have d1 : decide (c.attrs < 0) = true := by simpa using g1
      (repeat' (first | simp (maxSteps := 5000000) (implicitDefEqProofs := false) only [ruA, ruB, aEv, aTake, aLoad, aField, aIndex, aBin, bin2, ASt.get, aget, ASt.put, aStore, aBox, aCells, oneC, oneCL, Value.cells, Value.oneCell', aResL, aOne, ↓reduceIte, reduceCtorEq, Nat.reduceLT, Nat.reduceEqDiff, Nat.reduceAdd, Nat.reduceLeDiff, eq_self, tyE_39, tyA_58, tyS_58, tyZ_58, tyF_58_0, tyA_3, tyS_3, row_at, hlt, hc, d1] | (with_reducible refine aIf_split (fun _ => ?_) (fun _ => ?_)) | (with_reducible refine aSel_split (fun _ => ?_) (fun _ => ?_)) | (with_reducible refine aGd_split (fun _ => ?_) (fun _ => ?_)) | (with_reducible refine aDraw_quiet (by kernel_rfl) ?_)))
      all_goals exact retV ⟨false, rfl, by simp; exact hno (by omega)⟩
    have d1 : decide (c.attrs < 0) = false := by simpa using g1
    by_cases g2 : andI c.attrs a = 0
    · have d2 : (bits .and .i64 c.attrs a != 0) = false := by simpa [andI] using g2
      by_cases g3 : c.attrs = 0 ∧ c.const = -1
      · have d3 : (c.attrs == 0) = true := by simpa using g3.1
        have d4 : (c.const == -1) = true := by simpa using g3.2
        (repeat' (first | simp (maxSteps := 5000000) (implicitDefEqProofs := false) only [ruA, ruB, aEv, aTake, aLoad, aField, aIndex, aBin, bin2, ASt.get, aget, ASt.put, aStore, aBox, aCells, oneC, oneCL, Value.cells, Value.oneCell', aResL, aOne, ↓reduceIte, reduceCtorEq, Nat.reduceLT, Nat.reduceEqDiff, Nat.reduceAdd, Nat.reduceLeDiff, eq_self, tyE_39, tyA_58, tyS_58, tyZ_58, tyF_58_0, tyA_3, tyS_3, tyF_58_1, row_at, hlt, hc, d1, d2, d3, d4] | (with_reducible refine aIf_split (fun _ => ?_) (fun _ => ?_)) | (with_reducible refine aSel_split (fun _ => ?_) (fun _ => ?_)) | (with_reducible refine aGd_split (fun _ => ?_) (fun _ => ?_)) | (with_reducible refine aDraw_quiet (by kernel_rfl) ?_)))
        all_goals exact retV ⟨false, rfl, by simp; exact hno (fun h => h.2.2.1 g3)⟩
      · have e0 : IntKind.i64.wrap ((i : Int) + 1) = ((i + 1 : Nat) : Int) := wrapK (by omega)
        by_cases g4 : c.const = -1
        · have d4 : (c.const == -1) = true := by simpa using g4
          have d3 : (c.attrs == 0) = false := by simp; exact fun h => g3 ⟨h, g4⟩
          rw [if_pos g4, Int.add_zero] at hnx
          (repeat' (first | simp (maxSteps := 5000000) (implicitDefEqProofs := false) only [ruA, ruB, aEv, aTake, aLoad, aField, aIndex, aBin, bin2, ASt.get, aget, ASt.put, aStore, aBox, aCells, oneC, oneCL, Value.cells, Value.oneCell', ↓reduceIte, reduceCtorEq, Nat.reduceLT, Nat.reduceEqDiff, Nat.reduceAdd, Nat.reduceLeDiff, eq_self, tyE_39, tyA_58, tyS_58, tyZ_58, tyF_58_0, tyA_3, tyS_3, tyF_58_1, row_at, hlt, hc, d1, d2, d3, d4] | (with_reducible refine aIf_split (fun _ => ?_) (fun _ => ?_)) | (with_reducible refine aSel_split (fun _ => ?_) (fun _ => ?_)) | (with_reducible refine aGd_split (fun _ => ?_) (fun _ => ?_)) | (with_reducible refine aDraw_quiet (by kernel_rfl) ?_)))
          all_goals exact roundI (weak_cut1 (by (first | ((simp only [envIn, tabIn, envLt, tabLt, AV.lt, ruW, ASt.get, aget, ↓reduceIte, Nat.reduceLT, Nat.reduceEqDiff, eq_self, e0, orI]) <;> (repeat' apply And.intro) <;> first | (rw [wrapK (by omega)]; done) | (simp; done) | omega) | fail))) ⟨i + 1, orI a c.attrs, x, by omega, hat.symm, hnx.symm, hok2 ⟨by omega, g2, g3, .inl g4⟩, rfl⟩ (by simp only [slotN, ruW, ASt.get, aget, ↓reduceIte, Nat.reduceLT, Nat.reduceEqDiff, eq_self]; omega)
        · have d4 : (c.const == -1) = false := by simpa using g4
          rw [if_neg g4] at hnx
          by_cases g5 : c.const = x
          · have d5 : (c.const != x) = false := by simpa using g5
            have ex : IntKind.i64.wrap (x + 1) = x + 1 := wrap_in (by omega) (by omega)
            (repeat' (first | simp (maxSteps := 5000000) (implicitDefEqProofs := false) only [ruA, ruB, aEv, aTake, aLoad, aField, aIndex, aBin, bin2, ASt.get, aget, ASt.put, aStore, aBox, aCells, oneC, oneCL, Value.cells, Value.oneCell', ↓reduceIte, reduceCtorEq, Nat.reduceLT, Nat.reduceEqDiff, Nat.reduceAdd, Nat.reduceLeDiff, eq_self, tyE_39, tyA_58, tyS_58, tyZ_58, tyF_58_0, tyA_3, tyS_3, tyF_58_1, row_at, hlt, hc, d1, d2, d4, d5, ex] | (with_reducible refine aIf_split (fun _ => ?_) (fun _ => ?_)) | (with_reducible refine aSel_split (fun _ => ?_) (fun _ => ?_)) | (with_reducible refine aGd_split (fun _ => ?_) (fun _ => ?_)) | (with_reducible refine aDraw_quiet (by kernel_rfl) ?_)))
            all_goals exact roundI (weak_cut1 (by (first | ((simp only [envIn, tabIn, envLt, tabLt, AV.lt, ruW, ASt.get, aget, ↓reduceIte, Nat.reduceLT, Nat.reduceEqDiff, eq_self, e0, orI]) <;> (repeat' apply And.intro) <;> first | (rw [wrapK (by omega)]; done) | (simp; done) | omega) | fail))) ⟨i + 1, orI a c.attrs, x + 1, by omega, hat.symm, hnx.symm, hok2 ⟨by omega, g2, g3, .inr g5⟩, rfl⟩ (by simp only [slotN, ruW, ASt.get, aget, ↓reduceIte, Nat.reduceLT, Nat.reduceEqDiff, eq_self]; omega)
          · have d5 : (c.const != x) = true := by simpa using g5
            (repeat' (first | simp (maxSteps := 5000000) (implicitDefEqProofs := false) only [ruA, ruB, aEv, aTake, aLoad, aField, aIndex, aBin, bin2, ASt.get, aget, ASt.put, aStore, aBox, aCells, oneC, oneCL, Value.cells, Value.oneCell', aResL, aOne, ↓reduceIte, reduceCtorEq, Nat.reduceLT, Nat.reduceEqDiff, Nat.reduceAdd, Nat.reduceLeDiff, eq_self, tyE_39, tyA_58, tyS_58, tyZ_58, tyF_58_0, tyA_3, tyS_3, tyF_58_1, row_at, hlt, hc, d1, d2, d4, d5] | (with_reducible refine aIf_split (fun _ => ?_) (fun _ => ?_)) | (with_reducible refine aSel_split (fun _ => ?_) (fun _ => ?_)) | (with_reducible refine aGd_split (fun _ => ?_) (fun _ => ?_)) | (with_reducible refine aDraw_quiet (by kernel_rfl) ?_)))
            all_goals exact retV ⟨false, rfl, by simp; exact hno (fun h => by rcases h.2.2.2 with h | h <;> contradiction)⟩
    · have d2 : (bits .and .i64 c.attrs a != 0) = true := by simpa [andI] using g2
      (repeat' (first | simp (maxSteps := 5000000) (implicitDefEqProofs := false) only [ruA, ruB, aEv, aTake, aLoad, aField, aIndex, aBin, bin2, ASt.get, aget, ASt.put, aStore, aBox, aCells, oneC, oneCL, Value.cells, Value.oneCell', aResL, aOne, ↓reduceIte, reduceCtorEq, Nat.reduceLT, Nat.reduceEqDiff, Nat.reduceAdd, Nat.reduceLeDiff, eq_self, tyE_39, tyA_58, tyS_58, tyZ_58, tyF_58_0, tyA_3, tyS_3, row_at, hlt, hc, d1, d2] | (with_reducible refine aIf_split (fun _ => ?_) (fun _ => ?_)) | (with_reducible refine aSel_split (fun _ => ?_) (fun _ => ?_)) | (with_reducible refine aGd_split (fun _ => ?_) (fun _ => ?_)) | (with_reducible refine aDraw_quiet (by kernel_rfl) ?_)))
      all_goals exact retV ⟨false, rfl, by simp; exact hno (fun h => g2 h.2.1)⟩
  · obtain rfl : i = z.cls.length := by omega
    rw [List.take_length] at ha hx
    have hF := first_A n
    (repeat' (first | simp (maxSteps := 5000000) (implicitDefEqProofs := false) only [ruA, ruB, aEv, aBin, bin2, ASt.get, aget, ASt.put, aResL, aOne, ↓reduceIte, Nat.reduceLT, Nat.reduceEqDiff, eq_self, hlt] | (with_reducible refine aIf_split (fun _ => ?_) (fun _ => ?_)) | (with_reducible refine aSel_split (fun _ => ?_) (fun _ => ?_)) | (with_reducible refine aGd_split (fun _ => ?_) (fun _ => ?_)) | (with_reducible refine aDraw_quiet (by kernel_rfl) ?_) | ((with_reducible apply callV); exact (hF)) | ((with_reducible apply callD); exact (hF))))
    all_goals refine retV ⟨_, rfl, ?_⟩
    all_goals unfold FormedP
    all_goals rw [← ha, ← hx]
    all_goals constructor
    all_goals simp_all
end
section
open Go.RowKit
theorem and_nn (a b : Nat) (ha : a < 2 ^ 62) (hb : b < 2 ^ 62) : bits .and .i64 (a : Int) (b : Int) = ((a &&& b : Nat) : Int) := by
  show IntKind.i64.wrap ((BitVec.ofInt 64 (a : Int) &&& BitVec.ofInt 64 (b : Int)).toNat : Int) = _
  rw [BitVec.toNat_and, ofInt_nat64 a (by omega), ofInt_nat64 b (by omega)]
  exact wrap_nat _ (Nat.lt_of_le_of_lt Nat.and_le_left (by omega))
theorem attrs_bit (vals : List Int) (m : Int) (hv : vals.length ≤ 31) {a : Nat} (ha : attrsN vals m vals.length = (a : Int)) (hlt : a < 2 ^ 31) (q : Nat) : a.testBit q = true ↔ ∃ h : q < vals.length, vals[q] = m := by
  by_cases hq : q < 31
  · have h1 := attrs_has vals m vals.length hv (q : Int)
    rw [ha, hasB_low _ _ hq, low_of a hlt] at h1
    rw [h1]
    constructor
    · rintro ⟨q', e, h2, h3⟩
      obtain rfl : q = q' := by omega
      rw [List.getD_eq_getElem?_getD, List.getElem?_eq_getElem h2] at h3
      exact ⟨h2, h3⟩
    · rintro ⟨h2, h3⟩
      exact ⟨q, rfl, h2, by rw [List.getD_eq_getElem?_getD, List.getElem?_eq_getElem h2]; exact h3⟩
  · have : a.testBit q = false := Nat.testBit_lt_two_pow (Nat.lt_of_lt_of_le hlt (Nat.pow_le_pow_right (by decide) (by omega)))
    rw [this]
    constructor
    · intro h
      cases h
    · rintro ⟨h, _⟩
      omega
theorem atts_bits (vals c : List Int) (hv : vals.length ≤ 31) : ∀ L : List Int, ∃ A : Nat, atts (L.map (clsOf vals c)) = (A : Int) ∧ A < 2 ^ 31 ∧ ∀ q, A.testBit q = true ↔ ∃ h : q < vals.length, vals[q] ∈ L := fun L => by
  induction hk : L.length using Nat.strongRecOn generalizing L with
  | _ k ih =>
    rcases List.eq_nil_or_concat L with rfl | ⟨l, m, rfl⟩
    · exact ⟨0, rfl, by decide, fun q => by simp⟩
    · obtain ⟨A, h1, h2, h3⟩ := ih l.length (by simp at hk; omega) l rfl
      obtain ⟨a, ha, hlt⟩ := attrs_nat vals m vals.length hv
      have hb := attrs_bit vals m hv ha hlt
      have e : orI (A : Int) (a : Int) = ((A ||| a : Nat) : Int) := or_nat A a (by omega) (by omega)
      refine ⟨A ||| a, ?_, Nat.or_lt_two_pow h2 hlt, fun q => ?_⟩
      · rw [List.concat_eq_append, List.map_append, List.map_singleton, atts_snoc, h1]
        show orI _ (attrsN vals m vals.length) = _
        rw [ha, e]
      · rw [Nat.testBit_or, Bool.or_eq_true, h3, hb]
        constructor
        · rintro (⟨h, h4⟩ | ⟨h, h4⟩)
          · exact ⟨h, by simp [h4]⟩
          · exact ⟨h, by simp [h4]⟩
        · rintro ⟨h, h4⟩
          simp at h4
          rcases h4 with h4 | h4
          · exact .inl ⟨h, h4⟩
          · exact .inr ⟨h, h4⟩
theorem const_in {sc : List Int} (hup : Up sc) (m : Int) : (m ∉ sc ∧ constN sc m sc.length = -1) ∨ (∃ i : Nat, ∃ h : i < sc.length, sc[i] = m ∧ constN sc m sc.length = (i : Int)) := by
  rcases const_spec sc m sc.length with ⟨h1, h2⟩ | ⟨q, h1, h2, h3⟩
  · refine .inl ⟨fun hm => ?_, h1⟩
    obtain ⟨i, hi, rfl⟩ := List.getElem_of_mem hm
    exact h2 i hi (by rw [List.getD_eq_getElem?_getD, List.getElem?_eq_getElem hi]; rfl)
  · refine .inr ⟨q, h2, ?_, h1⟩
    rw [List.getD_eq_getElem?_getD, List.getElem?_eq_getElem h2] at h3
    exact h3
/-- numbers of a rising list that lie in another rising list, and are less than one: as many as are there less -/
theorem count_less {L sc : List Int} (hL : Up L) (hsc : Up sc) (hin : ∀ x ∈ sc, x ∈ L) {i : Nat} (hi : i < L.length) : ((L.take i).filter fun x => decide (x ∈ sc)) = sc.filter fun x => decide (x < L[i]) := by
  refine up_ext _ _ (List.Pairwise.filter _ (hL.sublist (List.take_sublist _ _))) (List.Pairwise.filter _ hsc) fun z => ?_
  simp only [List.mem_filter, decide_eq_true_eq]
  constructor
  · rintro ⟨h1, h2⟩
    obtain ⟨j, hj, rfl⟩ := List.getElem_of_mem h1
    rw [List.length_take] at hj
    rw [List.getElem_take] at h2 ⊢
    exact ⟨h2, List.pairwise_iff_getElem.1 hL j i (by omega) hi (by omega)⟩
  · rintro ⟨h1, h2⟩
    refine ⟨?_, h1⟩
    obtain ⟨j, hj, rfl⟩ := List.getElem_of_mem (hin z h1)
    rcases Nat.lt_or_ge j i with h | h
    · exact List.mem_iff_getElem.2 ⟨j, by rw [List.length_take]; omega, by rw [List.getElem_take]⟩
    · rcases Nat.lt_or_ge i j with h3 | h3
      · have := List.pairwise_iff_getElem.1 hL i j hi hj h3
        omega
      · obtain rfl : i = j := by omega
        omega
theorem less_idx {sc : List Int} (hsc : Up sc) {i : Nat} (hi : i < sc.length) : (sc.filter fun x => decide (x < sc[i])).length = i := by
  have : (sc.filter fun x => decide (x < sc[i])) = sc.take i := by
    refine up_ext _ _ (List.Pairwise.filter _ hsc) (hsc.sublist (List.take_sublist _ _)) fun z => ?_
    simp only [List.mem_filter, decide_eq_true_eq]
    constructor
    · rintro ⟨h1, h2⟩
      obtain ⟨j, hj, rfl⟩ := List.getElem_of_mem h1
      rcases Nat.lt_or_ge j i with h | h
      · exact List.mem_iff_getElem.2 ⟨j, by rw [List.length_take]; omega, by rw [List.getElem_take]⟩
      · rcases Nat.lt_or_ge i j with h3 | h3
        · have := List.pairwise_iff_getElem.1 hsc i j hi hj h3
          omega
        · obtain rfl : i = j := by omega
          omega
    · intro h1
      obtain ⟨j, hj, rfl⟩ := List.getElem_of_mem h1
      rw [List.length_take] at hj
      rw [List.getElem_take]
      exact ⟨List.getElem_mem _, List.pairwise_iff_getElem.1 hsc j i (by omega) hi (by omega)⟩
  rw [this, List.length_take]
  omega
theorem nextN_map (vals c : List Int) (L : List Int) : nextN (L.map (clsOf vals c)) = (L.filter fun x => decide (x ∈ sortR c)).length := by
  have hup := (sortR_up c).1
  unfold nextN
  rw [List.countP_map, List.countP_eq_length_filter]
  congr 1
  refine List.filter_congr fun x _ => ?_
  show (!((clsOf vals c x).const == -1)) = _
  unfold clsOf
  rcases const_in hup x with ⟨h1, h2⟩ | ⟨i, hi, h1, h2⟩
  · simp [h2, h1]
  · have : x ∈ sortR c := h1 ▸ List.getElem_mem hi
    rw [h2, Bool.eq_iff_iff]
    simp [this]
theorem formed_zone (vals c : List Int) (hv : vals.length ≤ 31) : FormedP (clsL vals c) (vals.length : Int) ((sortR c).length : Int) := by
  have hL := (sortR_up (vals ++ c)).1
  have hm := (sortR_up (vals ++ c)).2
  have hsc := (sortR_up c).1
  have hscm := (sortR_up c).2
  have hin : ∀ x ∈ sortR c, x ∈ numsL vals c := fun x hx => (hm x).2 (List.mem_append_right _ ((hscm x).1 hx))
  have hvin : ∀ x ∈ vals, x ∈ numsL vals c := fun x hx => (hm x).2 (List.mem_append_left _ hx)
  unfold clsL
  have hmem : ∀ x ∈ numsL vals c, x ∈ vals ∨ x ∈ sortR c := fun x hx => (List.mem_append.1 ((hm x).1 hx)).imp id (hscm x).2
  have hL : Up (numsL vals c) := hL
  clear hm
  generalize numsL vals c = L at *
  refine ⟨fun i hi => ?_, ?_, ?_⟩
  · rw [List.length_map] at hi
    rw [← List.map_take, List.getElem_map]
    obtain ⟨A, h1, h2, h3⟩ := atts_bits vals c hv (L.take i)
    obtain ⟨a, ha, hlt⟩ := attrs_nat vals L[i] vals.length hv
    have hb := attrs_bit vals L[i] hv ha hlt
    have hca : (clsOf vals c L[i]).attrs = (a : Int) := ha
    have hcc : (clsOf vals c L[i]).const = constN (sortR c) L[i] (sortR c).length := rfl
    refine ⟨by rw [hca]; omega, ?_, ?_, ?_⟩
    · rw [hca, h1]
      show bits .and .i64 (a : Int) (A : Int) = 0
      rw [and_nn a A (by omega) (by omega)]
      have : a &&& A = 0 := by
        apply Nat.eq_of_testBit_eq
        intro q
        rw [Nat.testBit_and, Nat.zero_testBit, Bool.and_eq_false_iff]
        rcases hq : a.testBit q with _ | _
        · exact .inl rfl
        · refine .inr (Bool.eq_false_iff.2 fun h4 => ?_)
          obtain ⟨h5, h6⟩ := (hb q).1 hq
          obtain ⟨_, h7⟩ := (h3 q).1 h4
          rw [h6] at h7
          obtain ⟨j, hj, h8⟩ := List.getElem_of_mem h7
          rw [List.length_take] at hj
          rw [List.getElem_take] at h8
          have := List.pairwise_iff_getElem.1 hL j i (by omega) hi (by omega)
          omega
      rw [this]
      rfl
    · rintro ⟨h4, h5⟩
      rw [hca] at h4
      rw [hcc] at h5
      obtain rfl : a = 0 := by omega
      rcases hmem L[i] (List.getElem_mem hi) with h6 | h6
      · obtain ⟨q, hq, h7⟩ := List.getElem_of_mem h6
        have := (hb q).2 ⟨hq, h7⟩
        simp at this
      · rcases const_in hsc L[i] with ⟨h7, _⟩ | ⟨j, hj, h7, h8⟩
        · exact h7 h6
        · omega
    · rw [hcc, nextN_map]
      rcases const_in hsc L[i] with ⟨_, h7⟩ | ⟨j, hj, h7, h8⟩
      · exact .inl h7
      · refine .inr ?_
        rw [h8, count_less hL hsc hin hi, ← h7, less_idx hsc hj]
  · obtain ⟨A, h1, h2, h3⟩ := atts_bits vals c hv L
    rw [h1]
    unfold firstI
    have e1 : (max 0 (min (vals.length : Int) 31)).toNat = vals.length := by omega
    rw [e1]
    have hA : A = 2 ^ vals.length - 1 := by
      apply Nat.eq_of_testBit_eq
      intro q
      rw [Nat.testBit_two_pow_sub_one, Bool.eq_iff_iff, h3]
      simp only [decide_eq_true_eq]
      exact ⟨fun h => h.1, fun h => ⟨h, hvin _ (List.getElem_mem h)⟩⟩
    have h5 : 1 ≤ 2 ^ vals.length := Nat.one_le_two_pow
    have h6 : (2 : Int) ^ vals.length = ((2 ^ vals.length : Nat) : Int) := by simp
    rw [hA, h6]
    omega
  · rw [nextN_map]
    congr 1
    have : (L.filter fun x => decide (x ∈ sortR c)) = sortR c := by
      refine up_ext _ _ (List.Pairwise.filter _ hL) hsc fun z => ?_
      simp only [List.mem_filter, decide_eq_true_eq]
      exact ⟨fun h => h.2, fun h => ⟨hin z h, h⟩⟩
    rw [this]
end
section
open Go.RowKit
theorem adet_iff {P : Program} {f : FuncId} {args : List AV} {Q : Prop} (h : ARel P f args fun R => ∃ b, R = val (.bool b) ∧ (b = true ↔ Q)) : ∃ t : Bool, (t = true ↔ Q) ∧ ADet P f args (val (.bool t)) := by
  by_cases hQ : Q
  · exact ⟨true, by simp [hQ], h.mono fun R ⟨b, h1, h2⟩ => by rw [h1, h2.2 hQ]⟩
  · exact ⟨false, by simp [hQ], h.mono fun R ⟨b, h1, h2⟩ => by
      cases b with
      | true => exact absurd (h2.1 rfl) hQ
      | false => exact h1⟩
def GappedP (z : Zn) (cap : Int) : Prop := (z.gaps.length : Int) = max ((z.cls.length : Int) - 1) 0 ∧ ∀ i (h : i < z.gaps.length), 0 ≤ z.gaps[i] ∧ z.gaps[i] ≤ cap
set_option maxRecDepth 100000 in
set_option maxHeartbeats 8000000 in
theorem gapped_A (z : Zn) (cap : Int) (h1 : z.cls.length ≤ 1000000) (h2 : z.gaps.length ≤ 1000000) : ARel Tryz.prog 73 [.agg (eZn z), eI cap] fun R => ∃ b, R = val (.bool b) ∧ (b = true ↔ GappedP z cap) := by
  refine arel_of_code mixedT Tryz.func73 rfl (by decide) Tryz.ntmps73 Tryz.results73 rfl ?_
  have e1 : IntKind.i64.wrap ((z.cls.length : Int) - 1) = (z.cls.length : Int) - 1 := wrap_in (by omega) (by omega)
  by_cases hl : (z.gaps.length : Int) = max ((z.cls.length : Int) - 1) 0
  · have d1 : ((z.gaps.length : Int) != max ((z.cls.length : Int) - 1) 0) = false := by simp [hl]
    (repeat' (first | simp (maxSteps := 5000000) (implicitDefEqProofs := false) only [ruA, ruB, aEv, aTake, aLoad, aField, aLen, aBin, bin2, ASt.get, aget, ASt.put, aBox, aCells, oneC, oneCL, envOf, ↓reduceIte, reduceCtorEq, Nat.reduceLT, Nat.reduceEqDiff, Nat.reduceAdd, Nat.reduceLeDiff, eq_self, ne_eq, aMM, tyF_41_1, tyA_33, tyS_33, tyE_33, tyF_41_0, tyA_39, tyS_39, tyE_39, e1, d1] | (with_reducible refine aIf_split (fun _ => ?_) (fun _ => ?_)) | (with_reducible refine aSel_split (fun _ => ?_) (fun _ => ?_)) | (with_reducible refine aGd_split (fun _ => ?_) (fun _ => ?_)) | (with_reducible refine aDraw_quiet (by kernel_rfl) ?_)))
    refine aLoop_of (fun st => ∃ i : Nat, i ≤ z.gaps.length ∧ (∀ j (h : j < z.gaps.length), j < i → 0 ≤ z.gaps[j] ∧ z.gaps[j] ≤ cap) ∧ st = ⟨31, [(1, eI cap), (17, sI z.gaps), (18, eI (z.gaps.length : Int)), (19, eI (i : Int))], [], 0⟩) (fun st => z.gaps.length - slotN st 19) ⟨_, (weak_cut1 (by (first | ((simp only [envIn, tabIn, envLt, tabLt, AV.lt, ruW, ASt.get, aget, ↓reduceIte, Nat.reduceLT, Nat.reduceEqDiff, eq_self]) <;> (repeat' apply And.intro) <;> first | (rw [wrapK (by omega)]; done) | (simp; done) | omega) | fail))), 0, Nat.zero_le _, fun j _ h => by omega, rfl⟩ ?_
    rintro _ ⟨i, hi, hok, rfl⟩
    by_cases hlt : i < z.gaps.length
    · have hno : ¬ (0 ≤ z.gaps[i] ∧ z.gaps[i] ≤ cap) → ¬ GappedP z cap := fun h h2 => h (h2.2 i hlt)
      have hok2 : (0 ≤ z.gaps[i] ∧ z.gaps[i] ≤ cap) → ∀ j (h : j < z.gaps.length), j < i + 1 → 0 ≤ z.gaps[j] ∧ z.gaps[j] ≤ cap := fun h j hj hji => by
        rcases Nat.lt_or_ge j i with h2 | h2
        · exact hok j hj h2
        · obtain rfl : j = i := by omega
          exact h
      generalize hg : z.gaps[i] = g at *
      by_cases g1 : g < 0
      · have d2 : decide (g < 0) = true := by simpa using g1
        (repeat' (first | simp (maxSteps := 5000000) (implicitDefEqProofs := false) only [ruA, ruB, aEv, aTake, aLoad, aIndex, aBin, bin2, ASt.get, aget, ASt.put, aResL, aOne, ↓reduceIte, reduceCtorEq, Nat.reduceLT, Nat.reduceEqDiff, eq_self, tyE_33, tyA_3, tyS_3, row_at, hlt, hg, d2] | (with_reducible refine aIf_split (fun _ => ?_) (fun _ => ?_)) | (with_reducible refine aSel_split (fun _ => ?_) (fun _ => ?_)) | (with_reducible refine aGd_split (fun _ => ?_) (fun _ => ?_)) | (with_reducible refine aDraw_quiet (by kernel_rfl) ?_)))
        all_goals exact retV ⟨false, rfl, by simp; exact hno (by omega)⟩
      · have d2 : decide (g < 0) = false := by simpa using g1
        by_cases g2 : cap < g
        · have d3 : decide (cap < g) = true := by simpa using g2
          (repeat' (first | simp (maxSteps := 5000000) (implicitDefEqProofs := false) only [ruA, ruB, aEv, aTake, aLoad, aIndex, aBin, bin2, ASt.get, aget, ASt.put, aResL, aOne, ↓reduceIte, reduceCtorEq, Nat.reduceLT, Nat.reduceEqDiff, eq_self, tyE_33, tyA_3, tyS_3, row_at, hlt, hg, d2, d3] | (with_reducible refine aIf_split (fun _ => ?_) (fun _ => ?_)) | (with_reducible refine aSel_split (fun _ => ?_) (fun _ => ?_)) | (with_reducible refine aGd_split (fun _ => ?_) (fun _ => ?_)) | (with_reducible refine aDraw_quiet (by kernel_rfl) ?_)))
          all_goals exact retV ⟨false, rfl, by simp; exact hno (by omega)⟩
        · have d3 : decide (cap < g) = false := by simpa using g2
          (repeat' (first | simp (maxSteps := 5000000) (implicitDefEqProofs := false) only [ruA, ruB, aEv, aTake, aLoad, aIndex, aBin, bin2, ASt.get, aget, ASt.put, ↓reduceIte, reduceCtorEq, Nat.reduceLT, Nat.reduceEqDiff, eq_self, tyE_33, tyA_3, tyS_3, row_at, hlt, hg, d2, d3] | (with_reducible refine aIf_split (fun _ => ?_) (fun _ => ?_)) | (with_reducible refine aSel_split (fun _ => ?_) (fun _ => ?_)) | (with_reducible refine aGd_split (fun _ => ?_) (fun _ => ?_)) | (with_reducible refine aDraw_quiet (by kernel_rfl) ?_)))
          all_goals exact roundI (weak_cut1 (by (first | ((simp only [envIn, tabIn, envLt, tabLt, AV.lt, ruW, ASt.get, aget, ↓reduceIte, Nat.reduceLT, Nat.reduceEqDiff, eq_self]) <;> (repeat' apply And.intro) <;> first | (rw [wrapK (by omega)]; done) | (simp; done) | omega) | fail))) ⟨i + 1, by omega, hok2 ⟨by omega, by omega⟩, rfl⟩ (by simp only [slotN, ruW, ASt.get, aget, ↓reduceIte, Nat.reduceLT, Nat.reduceEqDiff, eq_self]; omega)
    · (repeat' (first | simp (maxSteps := 5000000) (implicitDefEqProofs := false) only [ruA, ruB, aEv, aBin, bin2, ASt.get, aget, ASt.put, aResL, aOne, ↓reduceIte, Nat.reduceLT, Nat.reduceEqDiff, eq_self, hlt] | (with_reducible refine aIf_split (fun _ => ?_) (fun _ => ?_)) | (with_reducible refine aSel_split (fun _ => ?_) (fun _ => ?_)) | (with_reducible refine aGd_split (fun _ => ?_) (fun _ => ?_)) | (with_reducible refine aDraw_quiet (by kernel_rfl) ?_)))
      all_goals exact retV ⟨true, rfl, by simp; exact ⟨hl, fun j hj => hok j hj (by omega)⟩⟩
  · have d1 : ((z.gaps.length : Int) != max ((z.cls.length : Int) - 1) 0) = true := by simpa using hl
    (repeat' (first | simp (maxSteps := 5000000) (implicitDefEqProofs := false) only [ruA, ruB, aEv, aTake, aLoad, aField, aLen, aBin, bin2, ASt.get, aget, ASt.put, aBox, aCells, oneC, oneCL, envOf, aResL, aOne, ↓reduceIte, reduceCtorEq, Nat.reduceLT, Nat.reduceEqDiff, Nat.reduceAdd, Nat.reduceLeDiff, eq_self, ne_eq, aMM, tyF_41_1, tyA_33, tyS_33, tyE_33, tyF_41_0, tyA_39, tyS_39, tyE_39, e1, d1] | (with_reducible refine aIf_split (fun _ => ?_) (fun _ => ?_)) | (with_reducible refine aSel_split (fun _ => ?_) (fun _ => ?_)) | (with_reducible refine aGd_split (fun _ => ?_) (fun _ => ?_)) | (with_reducible refine aDraw_quiet (by kernel_rfl) ?_)))
    all_goals exact retV ⟨false, rfl, by simp; exact fun h => hl h.1⟩
/-- the places of classes with constants -/
def fixI (l : List Cls) (k : Nat) : List Nat := (List.range k).filter fun i => decide (0 ≤ (l[i]?.map (·.const)).getD (-1))
theorem fixI_snoc (l : List Cls) {k : Nat} (hk : k < l.length) : fixI l (k + 1) = if 0 ≤ l[k].const then fixI l k ++ [k] else fixI l k := by
  unfold fixI
  rw [List.range_succ, List.filter_append]
  by_cases h : 0 ≤ l[k].const
  · rw [if_pos h]
    simp [List.getElem?_eq_getElem hk, h]
  · rw [if_neg h]
    simp [List.getElem?_eq_getElem hk]
    omega
theorem fixI_len (l : List Cls) (k : Nat) : (fixI l k).length ≤ k := by
  have := List.length_filter_le (fun i => decide (0 ≤ (l[i]?.map (·.const)).getD (-1))) (List.range k)
  unfold fixI
  simpa using this
set_option maxRecDepth 100000 in
set_option maxHeartbeats 8000000 in
theorem fixed_A (z : Zn) (h1 : z.cls.length ≤ 1000000) : ADet Tryz.prog 74 [.agg (eZn z)] (own 3 1 ((fixI z.cls z.cls.length).map fun n : Nat => [eI (n : Int)])) := by
  refine adet_of_code mixedT Tryz.func74 rfl (by decide) Tryz.ntmps74 Tryz.results74 rfl (own_ok _ _ _) ?_
  (repeat' (first | simp (maxSteps := 5000000) (implicitDefEqProofs := false) only [ruA, ruB, aEv, aTake, aLoad, aField, aLen, ASt.get, aget, ASt.put, aBox, aCells, oneC, oneCL, envOf, ↓reduceIte, reduceCtorEq, Nat.reduceLT, Nat.reduceEqDiff, Nat.reduceAdd, Nat.reduceLeDiff, eq_self, ne_eq, tyF_41_0, tyA_39, tyS_39, tyE_39] | (with_reducible refine aIf_split (fun _ => ?_) (fun _ => ?_)) | (with_reducible refine aSel_split (fun _ => ?_) (fun _ => ?_)) | (with_reducible refine aGd_split (fun _ => ?_) (fun _ => ?_))))
  refine aLoop_of (fun st => ∃ k : Nat, k ≤ z.cls.length ∧ st = ⟨23, [(3, .osl 0), (7, .sl 2 (z.cls.map eCls)), (8, eI (z.cls.length : Int)), (9, eI (k : Int))], [(0, some (.row 3 1 ((fixI z.cls k).map fun n : Nat => [eI (n : Int)])))], 1⟩) (fun st => z.cls.length - slotN st 9) ⟨_, ((weak_nil 3 3 1 (by simp only [ASt.get, aget, ↓reduceIte, Nat.reduceLT, Nat.reduceEqDiff, eq_self])).trans (weak_ren1 [1] ⟨(by decide), (by (first | ((simp only [envInR, tabInR, envLt, tabLt, AObj.lt, AV.lt, AV.ren, AObj.ren, List.getD_cons_zero, List.length_cons, List.length_nil, ruW, ASt.get, aget, ↓reduceIte, Nat.reduceLT, Nat.reduceEqDiff, Nat.reduceAdd, eq_self, fixI, List.range_zero, List.filter_nil]) <;> (repeat' apply And.intro) <;> first | (rw [wrapK (by omega)]; done) | (simp; done) | omega) | fail))⟩)), 0, Nat.zero_le _, rfl⟩ ?_
  rintro _ ⟨k, hk, rfl⟩
  by_cases hlt : k < z.cls.length
  · have hs := fixI_snoc z.cls hlt
    have hl := fixI_len z.cls k
    generalize hc : z.cls[k] = c at *
    by_cases h : 0 ≤ c.const
    · have d1 : decide (0 ≤ c.const) = true := by simpa using h
      rw [if_pos h] at hs
      have hsn : (fixI z.cls (k + 1)).map (fun n : Nat => [eI (n : Int)]) = (fixI z.cls k).map (fun n : Nat => [eI (n : Int)]) ++ [[eI (k : Int)]] := by rw [hs, List.map_append]; rfl
      (repeat' (first | simp (maxSteps := 5000000) (implicitDefEqProofs := false) only [ruA, ruB, aEv, aTake, aLoad, aField, aIndex, aBin, bin2, ASt.get, aget, ASt.put, aStore, aBox, aAppend, aBuildSlice, aCells, oneC, oneCL, treeC, treeL, aLit, aDst, aSrc, appTab, Value.cells, Value.oneCell', ↓reduceIte, reduceCtorEq, Nat.reduceLT, Nat.reduceEqDiff, Nat.reduceAdd, Nat.reduceMul, Nat.reduceLeDiff, eq_self, aBuildSlice1, frzs, ownIds, tyE_39, tyA_58, tyS_58, tyZ_58, tyF_58_1, tyA_3, tyS_3, tyR_33, row_at, hlt, hc, d1] | (with_reducible refine aIf_split (fun _ => ?_) (fun _ => ?_)) | (with_reducible refine aSel_split (fun _ => ?_) (fun _ => ?_)) | (with_reducible refine aGd_split (fun _ => ?_) (fun _ => ?_)) | (with_reducible refine aDraw_quiet (by kernel_rfl) ?_) | (with_reducible apply And.intro)))
      all_goals first
        | rfl
        | omega
        | exact roundI (weak_ren1 [3] ⟨(by decide), (by (first | ((simp only [envInR, tabInR, envLt, tabLt, AObj.lt, AV.lt, AV.ren, AObj.ren, List.getD_cons_zero, List.length_cons, List.length_nil, ruW, ASt.get, aget, ↓reduceIte, Nat.reduceLT, Nat.reduceEqDiff, Nat.reduceAdd, eq_self, hsn]) <;> (repeat' apply And.intro) <;> first | (rw [wrapK (by omega)]; done) | (simp; done) | omega) | fail))⟩) ⟨k + 1, by omega, rfl⟩ (by simp only [slotN, ruW, ASt.get, aget, ↓reduceIte, Nat.reduceLT, Nat.reduceEqDiff, eq_self]; omega)
        | trace_state
    · have d1 : decide (0 ≤ c.const) = false := by simpa using h
      rw [if_neg h] at hs
      (repeat' (first | simp (maxSteps := 5000000) (implicitDefEqProofs := false) only [ruA, ruB, aEv, aTake, aLoad, aField, aIndex, aBin, bin2, ASt.get, aget, ASt.put, aStore, aBox, aCells, oneC, oneCL, Value.cells, Value.oneCell', ↓reduceIte, reduceCtorEq, Nat.reduceLT, Nat.reduceEqDiff, Nat.reduceAdd, eq_self, tyE_39, tyA_58, tyS_58, tyZ_58, tyF_58_1, tyA_3, tyS_3, row_at, hlt, hc, d1] | (with_reducible refine aIf_split (fun _ => ?_) (fun _ => ?_)) | (with_reducible refine aSel_split (fun _ => ?_) (fun _ => ?_)) | (with_reducible refine aGd_split (fun _ => ?_) (fun _ => ?_)) | (with_reducible refine aDraw_quiet (by kernel_rfl) ?_) | (with_reducible apply And.intro)))
      all_goals first
        | exact roundI (weak_ren1 [0] ⟨(by decide), (by (first | ((simp only [envInR, tabInR, envLt, tabLt, AObj.lt, AV.lt, AV.ren, AObj.ren, List.getD_cons_zero, List.length_cons, List.length_nil, ruW, ASt.get, aget, ↓reduceIte, reduceCtorEq, Nat.reduceLT, Nat.reduceEqDiff, Nat.reduceAdd, eq_self, hs]) <;> (repeat' apply And.intro) <;> first | (rw [wrapK (by omega)]; done) | (simp; done) | omega) | fail))⟩) ⟨k + 1, by omega, rfl⟩ (by simp only [slotN, ruW, ASt.get, aget, ↓reduceIte, Nat.reduceLT, Nat.reduceEqDiff, eq_self]; omega)
        | trace_state
  · obtain rfl : k = z.cls.length := by omega
    (repeat' (first | simp (maxSteps := 5000000) (implicitDefEqProofs := false) only [ruA, ruB, aEv, aBin, bin2, ASt.get, aget, ASt.put, aResL, aOne, ↓reduceIte, Nat.reduceLT, Nat.reduceEqDiff, eq_self, hlt] | (with_reducible refine aIf_split (fun _ => ?_) (fun _ => ?_)) | (with_reducible refine aSel_split (fun _ => ?_) (fun _ => ?_)) | (with_reducible refine aGd_split (fun _ => ?_) (fun _ => ?_)) | (with_reducible refine aDraw_quiet (by kernel_rfl) ?_)))
    all_goals exact aGives_own (by simp [ATab.get_cons])
/-- the gaps from one class on, up to another -/
def gapsPQ (z : Zn) (p q : Nat) : List Int := (z.gaps.take q).drop p
def RoomP (z : Zn) (p q : Nat) (cap a b : Int) : Prop :=
  gapV a b ((q : Int) - p - 1 + (gapsPQ z p q).sum + 1) = (q : Int) - p - 1 + (gapsPQ z p q).sum ∨ ((∃ g ∈ gapsPQ z p q, g = cap) ∧ (q : Int) - p - 1 + (gapsPQ z p q).sum < gapV a b ((q : Int) - p - 1 + (gapsPQ z p q).sum + 1))
theorem sum_bd (cap : Int) (hc : 0 ≤ cap) : ∀ l : List Int, (∀ g ∈ l, 0 ≤ g ∧ g ≤ cap) → 0 ≤ l.sum ∧ l.sum ≤ cap * l.length
  | [], _ => by simp
  | g :: l, h => by
    have h1 := sum_bd cap hc l fun x hx => h x (List.mem_cons_of_mem _ hx)
    have h2 := h g (List.mem_cons_self ..)
    rw [List.sum_cons, List.length_cons, Int.natCast_add, Int.mul_add]
    omega
set_option maxRecDepth 100000 in
set_option maxHeartbeats 8000000 in
theorem room_A (z : Zn) (p q : Nat) (cap a b : Int) (hpq : p < q) (hq : q ≤ z.gaps.length) (h2 : z.gaps.length ≤ 1000000) (hg : ∀ i (h : i < z.gaps.length), 0 ≤ z.gaps[i] ∧ z.gaps[i] ≤ cap) (hcap : 0 ≤ cap ∧ cap ≤ 4294967296) (ha : ok64 a) (hb : ok64 b) :
    ARel Tryz.prog 75 [.agg (eZn z), eI (p : Int), eI (q : Int), eI cap, eI a, eI b] fun R => ∃ t, R = val (.bool t) ∧ (t = true ↔ RoomP z p q cap a b) := by
  refine arel_of_code mixedT Tryz.func75 rfl (by decide) Tryz.ntmps75 Tryz.results75 rfl ?_
  unfold RoomP
  have hgl : (gapsPQ z p q).length = q - p := by unfold gapsPQ; rw [List.length_drop, List.length_take]; omega
  have hgb : ∀ g ∈ gapsPQ z p q, 0 ≤ g ∧ g ≤ cap := fun g hgm => by
    obtain ⟨i, hi, rfl⟩ := List.getElem_of_mem (List.mem_of_mem_take (List.mem_of_mem_drop hgm))
    exact hg i hi
  have hrows : List.drop p (List.take q (z.gaps.map fun n => [eI n])) = (gapsPQ z p q).map fun n => [eI n] := by unfold gapsPQ; rw [List.map_drop, List.map_take]
  generalize gapsPQ z p q = G at *
  have hgl2 : G.length ≤ 1000000 := by omega
  have hsb : ∀ k, k ≤ G.length → 0 ≤ (G.take k).sum ∧ (G.take k).sum ≤ 4294967296000000 := fun k hk => by
    have h := sum_bd cap hcap.1 (G.take k) fun g hgm => hgb g (List.mem_of_mem_take hgm)
    have h5 : ((G.take k).length : Int) ≤ 1000000 := by rw [List.length_take]; omega
    have h6 : cap * ((G.take k).length : Int) ≤ 4294967296 * 1000000 := Int.mul_le_mul hcap.2 h5 (by omega) (by omega)
    omega
  have hL : (((G.map fun n => [eI n]).length : Nat) : Int) = (G.length : Int) := by rw [List.length_map]
  have e1 : IntKind.i64.wrap ((q : Int) - (p : Int)) = (q : Int) - p := wrap_in (by omega) (by omega)
  obtain ⟨B, hB⟩ : ∃ B, (q : Int) - p - 1 = B := ⟨_, rfl⟩
  have e2 : IntKind.i64.wrap ((q : Int) - (p : Int) - 1) = B := by rw [hB]; exact wrap_in (by omega) (by omega)
  rw [hB]
  have hB1 : 0 ≤ B ∧ B ≤ 1000000 := by omega
  (repeat' (first | simp (maxSteps := 5000000) (implicitDefEqProofs := false) only [ruA, ruB, aEv, aTake, aLoad, aField, aLen, aBin, bin2, ASt.get, aget, ASt.put, aBox, aCells, oneC, oneCL, envOf, ↓reduceIte, reduceCtorEq, Nat.reduceLT, Nat.reduceEqDiff, Nat.reduceAdd, eq_self, ne_eq, aSliceW, aSlice, aSliceR, aBd, tyF_41_1, tyA_33, tyS_33, tyE_33, e1, e2, hrows] | (with_reducible refine aIf_split (fun _ => ?_) (fun _ => ?_)) | (with_reducible refine aSel_split (fun _ => ?_) (fun _ => ?_)) | (with_reducible refine aGd_split (fun _ => ?_) (fun _ => ?_))))
  refine ⟨⟨by omega, by omega⟩, ?_⟩
  clear hrows hg
  refine aLoop_of (fun st => ∃ (k : Nat) (s : Int) (w : Bool), k ≤ G.length ∧ s = B + (G.take k).sum ∧ (w = true ↔ ∃ g ∈ G.take k, g = cap) ∧ st = ⟨58, [(3, eI cap), (4, eI a), (5, eI b), (13, eI s), (14, .c (.bool w)), (26, sI G), (27, eI (G.length : Int)), (28, eI (k : Int))], [], 0⟩) (fun st => G.length - slotN st 28) ⟨_, (weak_cut1 (by (first | ((simp only [envIn, tabIn, envLt, tabLt, AV.lt, ruW, ASt.get, aget, ↓reduceIte, Nat.reduceLT, Nat.reduceEqDiff, eq_self]) <;> (repeat' apply And.intro) <;> first | (rw [wrapK (by omega)]; done) | (simp; done) | omega) | fail))), 0, B, false, Nat.zero_le _, by simp, by simp, rfl⟩ ?_
  rintro _ ⟨k, s, w, hk, hs, hw, rfl⟩
  by_cases hlt : k < G.length
  · have htk : G.take (k + 1) = G.take k ++ [G[k]] := List.take_succ_eq_append_getElem hlt
    have h5 := hsb k (by omega)
    have h6 := hsb (k + 1) (by omega)
    rw [htk, List.sum_append, List.sum_singleton] at h6
    have es : IntKind.i64.wrap (s + G[k]) = s + G[k] := wrap_in (by omega) (by omega)
    have hs2 : s + G[k] = B + (G.take (k + 1)).sum := by rw [htk, List.sum_append, List.sum_singleton]; omega
    have hw2 : (w || G[k] == cap) = true ↔ ∃ g ∈ G.take (k + 1), g = cap := by
      rw [htk, Bool.or_eq_true, hw]
      simp only [List.mem_append, List.mem_singleton, beq_iff_eq]
      constructor
      · rintro (⟨g, h1, h2⟩ | h)
        · exact ⟨g, .inl h1, h2⟩
        · exact ⟨_, .inr rfl, h⟩
      · rintro ⟨g, h1 | rfl, h2⟩
        · exact .inl ⟨g, h1, h2⟩
        · exact .inr h2
    clear hw hs hsb htk
    generalize hgk : G[k] = g at *
    cases w with
    | true =>
      (repeat' (first | simp (maxSteps := 5000000) (implicitDefEqProofs := false) only [ruA, ruB, aEv, aTake, aLoad, aIndex, aBin, bin2, ASt.get, aget, ASt.put, ↓reduceIte, reduceCtorEq, Nat.reduceLT, Nat.reduceEqDiff, eq_self, tyE_33, tyA_3, tyS_3, row_at, hlt, hgk, es] | (with_reducible refine aIf_split (fun _ => ?_) (fun _ => ?_)) | (with_reducible refine aSel_split (fun _ => ?_) (fun _ => ?_)) | (with_reducible refine aGd_split (fun _ => ?_) (fun _ => ?_)) | (with_reducible refine aDraw_quiet (by kernel_rfl) ?_)))
      all_goals exact roundI (weak_cut1 (by (first | ((simp only [envIn, tabIn, envLt, tabLt, AV.lt, ruW, ASt.get, aget, ↓reduceIte, Nat.reduceLT, Nat.reduceEqDiff, eq_self]) <;> (repeat' apply And.intro) <;> first | (rw [wrapK (by omega)]; done) | (simp; done) | omega) | fail))) ⟨k + 1, s + g, true, by omega, hs2, by simpa using hw2, rfl⟩ (by simp only [slotN, ruW, ASt.get, aget, ↓reduceIte, Nat.reduceLT, Nat.reduceEqDiff, eq_self]; omega)
    | false =>
      by_cases hgc : g = cap
      · have d1 : (g == cap) = true := by simpa using hgc
        (repeat' (first | simp (maxSteps := 5000000) (implicitDefEqProofs := false) only [ruA, ruB, aEv, aTake, aLoad, aIndex, aBin, bin2, ASt.get, aget, ASt.put, ↓reduceIte, reduceCtorEq, Nat.reduceLT, Nat.reduceEqDiff, eq_self, tyE_33, tyA_3, tyS_3, row_at, hlt, hgk, es, d1] | (with_reducible refine aIf_split (fun _ => ?_) (fun _ => ?_)) | (with_reducible refine aSel_split (fun _ => ?_) (fun _ => ?_)) | (with_reducible refine aGd_split (fun _ => ?_) (fun _ => ?_)) | (with_reducible refine aDraw_quiet (by kernel_rfl) ?_)))
        all_goals exact roundI (weak_cut1 (by (first | ((simp only [envIn, tabIn, envLt, tabLt, AV.lt, ruW, ASt.get, aget, ↓reduceIte, Nat.reduceLT, Nat.reduceEqDiff, eq_self]) <;> (repeat' apply And.intro) <;> first | (rw [wrapK (by omega)]; done) | (simp; done) | omega) | fail))) ⟨k + 1, s + g, true, by omega, hs2, by rw [← hw2, d1]; rfl, rfl⟩ (by simp only [slotN, ruW, ASt.get, aget, ↓reduceIte, Nat.reduceLT, Nat.reduceEqDiff, eq_self]; omega)
      · have d1 : (g == cap) = false := by simpa using hgc
        (repeat' (first | simp (maxSteps := 5000000) (implicitDefEqProofs := false) only [ruA, ruB, aEv, aTake, aLoad, aIndex, aBin, bin2, ASt.get, aget, ASt.put, ↓reduceIte, reduceCtorEq, Nat.reduceLT, Nat.reduceEqDiff, eq_self, tyE_33, tyA_3, tyS_3, row_at, hlt, hgk, es, d1] | (with_reducible refine aIf_split (fun _ => ?_) (fun _ => ?_)) | (with_reducible refine aSel_split (fun _ => ?_) (fun _ => ?_)) | (with_reducible refine aGd_split (fun _ => ?_) (fun _ => ?_)) | (with_reducible refine aDraw_quiet (by kernel_rfl) ?_)))
        all_goals exact roundI (weak_cut1 (by (first | ((simp only [envIn, tabIn, envLt, tabLt, AV.lt, ruW, ASt.get, aget, ↓reduceIte, Nat.reduceLT, Nat.reduceEqDiff, eq_self]) <;> (repeat' apply And.intro) <;> first | (rw [wrapK (by omega)]; done) | (simp; done) | omega) | fail))) ⟨k + 1, s + g, false, by omega, hs2, by rw [← hw2, d1]; rfl, rfl⟩ (by simp only [slotN, ruW, ASt.get, aget, ↓reduceIte, Nat.reduceLT, Nat.reduceEqDiff, eq_self]; omega)
  · obtain rfl : k = G.length := by omega
    have h5 := hsb G.length (Nat.le_refl _)
    rw [List.take_length] at hs hw h5
    have es : IntKind.i64.wrap (s + 1) = s + 1 := wrap_in (by omega) (by omega)
    have hG := numGap_A a b (s + 1) ha hb (by unfold ok64; omega)
    rw [← hs]
    by_cases g1 : gapV a b (s + 1) = s
    · have d1 : (gapV a b (s + 1) == s) = true := by simpa using g1
      (repeat' (first | simp (maxSteps := 5000000) (implicitDefEqProofs := false) only [ruA, ruB, aEv, aBin, bin2, ASt.get, aget, ASt.put, aResL, aOne, ↓reduceIte, Nat.reduceLT, Nat.reduceEqDiff, eq_self, hlt, es, d1] | (with_reducible refine aIf_split (fun _ => ?_) (fun _ => ?_)) | (with_reducible refine aSel_split (fun _ => ?_) (fun _ => ?_)) | (with_reducible refine aGd_split (fun _ => ?_) (fun _ => ?_)) | (with_reducible refine aDraw_quiet (by kernel_rfl) ?_) | ((with_reducible apply callV); exact (hG)) | ((with_reducible apply callD); exact (hG))))
      all_goals exact retV ⟨true, rfl, by simp [g1]⟩
    · have d1 : (gapV a b (s + 1) == s) = false := by simpa using g1
      cases w with
      | true =>
        (repeat' (first | simp (maxSteps := 5000000) (implicitDefEqProofs := false) only [ruA, ruB, aEv, aBin, bin2, ASt.get, aget, ASt.put, aResL, aOne, ↓reduceIte, Nat.reduceLT, Nat.reduceEqDiff, eq_self, hlt, es, d1] | (with_reducible refine aIf_split (fun _ => ?_) (fun _ => ?_)) | (with_reducible refine aSel_split (fun _ => ?_) (fun _ => ?_)) | (with_reducible refine aGd_split (fun _ => ?_) (fun _ => ?_)) | (with_reducible refine aDraw_quiet (by kernel_rfl) ?_) | ((with_reducible apply callV); exact (hG)) | ((with_reducible apply callD); exact (hG))))
        all_goals exact retV ⟨_, rfl, by simp at hw; simp [g1, hw]⟩
      | false =>
        (repeat' (first | simp (maxSteps := 5000000) (implicitDefEqProofs := false) only [ruA, ruB, aEv, aBin, bin2, ASt.get, aget, ASt.put, aResL, aOne, ↓reduceIte, Nat.reduceLT, Nat.reduceEqDiff, eq_self, hlt, es, d1] | (with_reducible refine aIf_split (fun _ => ?_) (fun _ => ?_)) | (with_reducible refine aSel_split (fun _ => ?_) (fun _ => ?_)) | (with_reducible refine aGd_split (fun _ => ?_) (fun _ => ?_)) | (with_reducible refine aDraw_quiet (by kernel_rfl) ?_) | ((with_reducible apply callV); exact (hG)) | ((with_reducible apply callD); exact (hG))))
        all_goals exact retV ⟨_, rfl, by simp at hw; simp [g1, hw]⟩
end
section
open Go.RowKit
theorem fixI_le (l : List Cls) : ∀ k, k ≤ l.length → (fixI l k).length ≤ nextN (l.take k)
  | 0, _ => by simp [fixI]
  | k + 1, h => by
    have ih := fixI_le l k (by omega)
    rw [fixI_snoc l (by omega), List.take_succ_eq_append_getElem (by omega), nextN_snoc]
    split
    · rw [List.length_append, List.length_singleton, if_neg (by omega)]
      omega
    · omega
theorem fixI_up (l : List Cls) (k : Nat) : (fixI l k).Pairwise (· < ·) := List.Pairwise.filter _ List.pairwise_lt_range
theorem fixI_mem (l : List Cls) (k : Nat) {i : Nat} (h : i ∈ fixI l k) : i < k := by
  unfold fixI at h
  simp at h
  exact h.1
def fixL (z : Zn) : List Nat := fixI z.cls z.cls.length
def CheckP (z : Zn) (n : Int) (c : List Int) (r : Int) : Prop :=
  ((0 ≤ n ∧ n ≤ 31) ∧ FormedP z.cls n ((sortR c).length : Int) ∧ GappedP z (capV r)) ∧ ∀ i, i + 1 < (fixL z).length → RoomP z ((fixL z).getD i 0) ((fixL z).getD (i + 1) 0) (capV r) ((sortR c).getD i 0) ((sortR c).getD (i + 1) 0)
set_option maxRecDepth 100000 in
set_option maxHeartbeats 16000000 in
theorem zoneCheck_A (z : Zn) (n : Int) (c : List Int) (r : Int) (h1 : z.cls.length ≤ 1000000) (h2 : z.gaps.length ≤ 1000000) (h3 : c.length ≤ 1000000) (hc : ∀ x ∈ c, ok64 x) : ARel Tryz.prog 44 [.agg (eZn z), eI n, sI c, eI r] fun R => ∃ b, R = val (.bool b) ∧ (b = true ↔ CheckP z n c r) := by
  refine arel_of_code mixedT Tryz.func44 rfl (by decide) Tryz.ntmps44 Tryz.results44 rfl ?_
  have hS := numSorted_A c h3
  have hCap := halveCap_A r
  have hcap0 := capV_0 r
  have hcap1 := capV_le r
  have hsl := sortR_len c
  have hso : ∀ x ∈ sortR c, ok64 x := fun x hx => hc x (((sortR_up c).2 x).1 hx)
  unfold CheckP
  generalize sortR c = sc at *
  generalize capV r = cap at *
  obtain ⟨t1, ht1, hF⟩ := adet_iff (formed_A z n (sc.length : Int) h1)
  obtain ⟨t2, ht2, hG⟩ := adet_iff (gapped_A z cap h1 h2)
  rw [← ht1, ← ht2]
  by_cases g1 : 0 ≤ n
  · have d1 : decide (n < 0) = false := by simpa using g1
    by_cases g2 : n ≤ 31
    · have d2 : decide (31 < n) = false := by simpa using g2
      cases t1 with
      | false =>
        (repeat' (first | simp (maxSteps := 5000000) (implicitDefEqProofs := false) only [ruA, ruB, aEv, aTake, aLoad, aLen, aBin, bin2, aUn, un1, ASt.get, aget, ASt.put, aBox, aCells, oneC, oneCL, envOf, aResL, aOne, ↓reduceIte, reduceCtorEq, Nat.reduceLT, Nat.reduceEqDiff, Nat.reduceAdd, eq_self, ne_eq, dref, dref1, AV.shift, tyA_41, tyS_41, tyE_23, d1, d2] | (with_reducible refine aIf_split (fun _ => ?_) (fun _ => ?_)) | (with_reducible refine aSel_split (fun _ => ?_) (fun _ => ?_)) | (with_reducible refine aGd_split (fun _ => ?_) (fun _ => ?_)) | (with_reducible refine aDraw_quiet (by kernel_rfl) ?_) | ((with_reducible apply callT); exact (hS); exact (.inl (by simp [roL, roA]))) | ((with_reducible apply callV); exact (hF)) | ((with_reducible apply callD); exact (hF))))
        all_goals exact retV ⟨false, rfl, by simp⟩
      | true =>
        cases t2 with
        | false =>
          (repeat' (first | simp (maxSteps := 5000000) (implicitDefEqProofs := false) only [ruA, ruB, aEv, aTake, aLoad, aLen, aBin, bin2, aUn, un1, ASt.get, aget, ASt.put, aBox, aCells, oneC, oneCL, envOf, aResL, aOne, ↓reduceIte, reduceCtorEq, Nat.reduceLT, Nat.reduceEqDiff, Nat.reduceAdd, eq_self, ne_eq, dref, dref1, AV.shift, tyA_41, tyS_41, tyE_23, d1, d2] | (with_reducible refine aIf_split (fun _ => ?_) (fun _ => ?_)) | (with_reducible refine aSel_split (fun _ => ?_) (fun _ => ?_)) | (with_reducible refine aGd_split (fun _ => ?_) (fun _ => ?_)) | (with_reducible refine aDraw_quiet (by kernel_rfl) ?_) | ((with_reducible apply callT); exact (hS); exact (.inl (by simp [roL, roA]))) | ((with_reducible apply callV); exact (hF)) | ((with_reducible apply callD); exact (hF)) | ((with_reducible apply callV); exact (hCap)) | ((with_reducible apply callD); exact (hCap)) | ((with_reducible apply callV); exact (hG)) | ((with_reducible apply callD); exact (hG))))
          all_goals exact retV ⟨false, rfl, by simp⟩
        | true =>
          have hfx : (fixL z).length ≤ sc.length := by
            have := fixI_le z.cls z.cls.length (Nat.le_refl _)
            rw [List.take_length] at this
            have h5 := (ht1.1 rfl).2.2
            unfold fixL
            omega
          have hup : (fixL z).Pairwise (· < ·) := fixI_up _ _
          have hlt2 : ∀ i ∈ fixL z, i < z.cls.length := fun i hi => fixI_mem _ _ hi
          have hgp := ht2.1 rfl
          have hX := fixed_A z h1
          have hXe : fixI z.cls z.cls.length = fixL z := rfl
          rw [hXe] at hX
          have hRoom : ∀ i, i + 1 < (fixL z).length → ∃ t : Bool, (t = true ↔ RoomP z ((fixL z).getD i 0) ((fixL z).getD (i + 1) 0) cap (sc.getD i 0) (sc.getD (i + 1) 0)) ∧ ADet Tryz.prog 75 [.agg (eZn z), eI (((fixL z).getD i 0 : Nat) : Int), eI (((fixL z).getD (i + 1) 0 : Nat) : Int), eI cap, eI (sc.getD i 0), eI (sc.getD (i + 1) 0)] (val (.bool t)) := fun i hi => by
            have e1 : (fixL z).getD i 0 = (fixL z)[i] := by rw [List.getD_eq_getElem?_getD, List.getElem?_eq_getElem (by omega)]; rfl
            have e2 : (fixL z).getD (i + 1) 0 = (fixL z)[i + 1] := by rw [List.getD_eq_getElem?_getD, List.getElem?_eq_getElem (by omega)]; rfl
            have e3 : sc.getD i 0 = sc[i] := by rw [List.getD_eq_getElem?_getD, List.getElem?_eq_getElem (by omega)]; rfl
            have e4 : sc.getD (i + 1) 0 = sc[i + 1] := by rw [List.getD_eq_getElem?_getD, List.getElem?_eq_getElem (by omega)]; rfl
            have h5 := List.pairwise_iff_getElem.1 hup i (i + 1) (by omega) hi (by omega)
            have h6 := hlt2 _ (List.getElem_mem hi)
            have h7 := hgp.1
            exact adet_iff (room_A z _ _ cap _ _ (by rw [e1, e2]; exact h5) (by rw [e2]; omega) h2 hgp.2 ⟨hcap0, hcap1⟩ (by rw [e3]; exact hso _ (List.getElem_mem _)) (by rw [e4]; exact hso _ (List.getElem_mem _)))
          have hal : (fixL z).length ≤ 1000000 := by
            have := fixI_len z.cls z.cls.length
            unfold fixL
            omega
          clear ht1 ht2 hup hlt2 hgp hXe
          generalize fixL z = at' at *
          (repeat' (first | simp (maxSteps := 5000000) (implicitDefEqProofs := false) only [ruA, ruB, aEv, aTake, aLoad, aLen, aBin, bin2, aUn, un1, ASt.get, aget, ASt.put, aBox, aCells, oneC, oneCL, envOf, ↓reduceIte, Nat.reduceLT, Nat.reduceEqDiff, Nat.reduceAdd, eq_self, ne_eq, dref, dref1, AV.shift, tyA_41, tyS_41, tyE_23, d1, d2] | (with_reducible refine aIf_split (fun _ => ?_) (fun _ => ?_)) | (with_reducible refine aSel_split (fun _ => ?_) (fun _ => ?_)) | (with_reducible refine aGd_split (fun _ => ?_) (fun _ => ?_)) | (with_reducible refine aDraw_quiet (by kernel_rfl) ?_) | ((with_reducible apply callT); exact (hS); exact (.inl (by simp [roL, roA]))) | ((with_reducible apply callV); exact (hF)) | ((with_reducible apply callD); exact (hF)) | ((with_reducible apply callV); exact (hCap)) | ((with_reducible apply callD); exact (hCap)) | ((with_reducible apply callV); exact (hG)) | ((with_reducible apply callD); exact (hG))))
          all_goals refine callO hX (.inr (fun row hr av ha => by
            obtain ⟨m, _, rfl⟩ := List.mem_map.1 hr
            simp at ha
            rw [ha]
            trivial)) ?_
          all_goals (repeat' (first | simp (maxSteps := 5000000) (implicitDefEqProofs := false) only [ruA, aEv, ASt.get, aget, ASt.put, ↓reduceIte, Nat.reduceLT, Nat.reduceAdd, eq_self] | (with_reducible refine aIf_split (fun _ => ?_) (fun _ => ?_)) | (with_reducible refine aSel_split (fun _ => ?_) (fun _ => ?_)) | (with_reducible refine aGd_split (fun _ => ?_) (fun _ => ?_))))
          refine aLoop_of (fun st => ∃ k : Nat, (k = 0 ∨ k + 1 ≤ at'.length) ∧ (∀ i, i + 1 < at'.length → i < k → RoomP z (at'.getD i 0) (at'.getD (i + 1) 0) cap (sc.getD i 0) (sc.getD (i + 1) 0)) ∧ st = ⟨66, [(3, eI r), (4, .op 0 0 0), (9, sI sc), (10, .osl 1), (11, eI ((k + 1 : Nat) : Int))], [(0, some (.box 41 (eZn z))), (1, some (.row 3 1 (at'.map fun n : Nat => [eI (n : Int)])))], 2⟩) (fun st => at'.length - slotN st 11) ⟨_, (weak_cut1 (by (first | ((simp only [envIn, tabIn, envLt, tabLt, AObj.lt, AV.lt, AV.ltL, ruW, ASt.get, aget, ↓reduceIte, reduceCtorEq, Nat.reduceLT, Nat.reduceEqDiff, Nat.reduceAdd, eq_self]) <;> (repeat' apply And.intro) <;> first | (rw [wrapK (by omega)]; done) | (simp; done) | omega) | fail))), 0, .inl rfl, fun i _ h => by omega, rfl⟩ ?_
          rintro _ ⟨k, hk, hok, rfl⟩
          by_cases hlt : k + 1 < at'.length
          · have hlt0 : k < at'.length := by omega
            have hs0 : k < sc.length := by omega
            have hs1 : k + 1 < sc.length := by omega
            have e1 : at'.getD k 0 = at'[k] := by rw [List.getD_eq_getElem?_getD, List.getElem?_eq_getElem (by omega)]; rfl
            have e2 : at'.getD (k + 1) 0 = at'[k + 1] := by rw [List.getD_eq_getElem?_getD, List.getElem?_eq_getElem (by omega)]; rfl
            have e3 : sc.getD k 0 = sc[k] := by rw [List.getD_eq_getElem?_getD, List.getElem?_eq_getElem (by omega)]; rfl
            have e4 : sc.getD (k + 1) 0 = sc[k + 1] := by rw [List.getD_eq_getElem?_getD, List.getElem?_eq_getElem (by omega)]; rfl
            have e5 : IntKind.i64.wrap (((k + 1 : Nat) : Int) - 1) = (k : Int) := by rw [wrap_in (by omega) (by omega)]; omega
            obtain ⟨t, ht, hR⟩ := hRoom k hlt
            have hok2 : RoomP z (at'.getD k 0) (at'.getD (k + 1) 0) cap (sc.getD k 0) (sc.getD (k + 1) 0) → ∀ i, i + 1 < at'.length → i < k + 1 → RoomP z (at'.getD i 0) (at'.getD (i + 1) 0) cap (sc.getD i 0) (sc.getD (i + 1) 0) := fun h i h1 h2 => by
              rcases Nat.lt_or_ge i k with h3 | h3
              · exact hok i h1 h3
              · obtain rfl : i = k := by omega
                exact h
            have hno : ¬ RoomP z (at'.getD k 0) (at'.getD (k + 1) 0) cap (sc.getD k 0) (sc.getD (k + 1) 0) → ¬ ∀ i, i + 1 < at'.length → RoomP z (at'.getD i 0) (at'.getD (i + 1) 0) cap (sc.getD i 0) (sc.getD (i + 1) 0) := fun h h2 => h (h2 k hlt)
            rw [← ht] at hok2 hno
            rw [e1, e2, e3, e4] at hR
            have f1 : at'[k]? = some at'[k] := List.getElem?_eq_getElem hlt0
            have f2 : at'[k + 1]? = some at'[k + 1] := List.getElem?_eq_getElem hlt
            have f3 : sc[k]? = some sc[k] := List.getElem?_eq_getElem hs0
            have f4 : sc[k + 1]? = some sc[k + 1] := List.getElem?_eq_getElem hs1
            clear hRoom e1 e2 e3 e4 ht hok
            obtain ⟨x1, hx1⟩ : ∃ x, at'[k] = x := ⟨_, rfl⟩
            obtain ⟨x2, hx2⟩ : ∃ x, at'[k + 1] = x := ⟨_, rfl⟩
            obtain ⟨x3, hx3⟩ : ∃ x, sc[k] = x := ⟨_, rfl⟩
            obtain ⟨x4, hx4⟩ : ∃ x, sc[k + 1] = x := ⟨_, rfl⟩
            rw [hx1, hx2, hx3, hx4] at hR
            cases t with
            | true =>
              (repeat' (first | simp (maxSteps := 5000000) (implicitDefEqProofs := false) only [ruA, ruB, aEv, aTake, aLoad, aIndex, aLen, aBin, bin2, aUn, un1, ASt.get, aget, ASt.put, ↓reduceIte, reduceCtorEq, Nat.reduceLT, Nat.reduceEqDiff, Nat.reduceAdd, eq_self, ne_eq, dref, dref1, tyA_41, tyS_41, tyE_23, tyE_33, tyA_3, tyS_3, tyA_2, tyS_2, row_at, hlt, hlt0, hs0, hs1, hx1, hx2, hx3, hx4, e5] | (with_reducible refine aIf_split (fun _ => ?_) (fun _ => ?_)) | (with_reducible refine aSel_split (fun _ => ?_) (fun _ => ?_)) | (with_reducible refine aGd_split (fun _ => ?_) (fun _ => ?_)) | (with_reducible refine aDraw_quiet (by kernel_rfl) ?_) | ((with_reducible apply callV); exact (hCap)) | ((with_reducible apply callD); exact (hCap)) | ((with_reducible apply callV); exact (hR)) | ((with_reducible apply callD); exact (hR))))
              all_goals exact roundI (weak_cut1 (by (first | ((simp only [envIn, tabIn, envLt, tabLt, AObj.lt, AV.lt, AV.ltL, ruW, ASt.get, aget, ↓reduceIte, Nat.reduceLT, Nat.reduceEqDiff, eq_self]) <;> (repeat' apply And.intro) <;> first | (rw [wrapK (by omega)]; done) | (simp; done) | omega) | fail))) ⟨k + 1, .inr (by omega), hok2 rfl, rfl⟩ (by simp only [slotN, ruW, ASt.get, aget, ↓reduceIte, Nat.reduceLT, Nat.reduceEqDiff, eq_self]; omega)
            | false =>
              (repeat' (first | simp (maxSteps := 5000000) (implicitDefEqProofs := false) only [ruA, ruB, aEv, aTake, aLoad, aIndex, aLen, aBin, bin2, aUn, un1, ASt.get, aget, ASt.put, aResL, aOne, ↓reduceIte, reduceCtorEq, Nat.reduceLT, Nat.reduceEqDiff, Nat.reduceAdd, eq_self, ne_eq, dref, dref1, tyA_41, tyS_41, tyE_23, tyE_33, tyA_3, tyS_3, tyA_2, tyS_2, row_at, hlt, hlt0, hs0, hs1, hx1, hx2, hx3, hx4, e5] | (with_reducible refine aIf_split (fun _ => ?_) (fun _ => ?_)) | (with_reducible refine aSel_split (fun _ => ?_) (fun _ => ?_)) | (with_reducible refine aGd_split (fun _ => ?_) (fun _ => ?_)) | (with_reducible refine aDraw_quiet (by kernel_rfl) ?_) | ((with_reducible apply callV); exact (hCap)) | ((with_reducible apply callD); exact (hCap)) | ((with_reducible apply callV); exact (hR)) | ((with_reducible apply callD); exact (hR))))
              all_goals exact retV ⟨false, rfl, by simpa using fun _ _ => hno (by simp)⟩
          · (repeat' (first | simp (maxSteps := 5000000) (implicitDefEqProofs := false) only [ruA, ruB, aEv, aLen, aBin, bin2, ASt.get, aget, ASt.put, aResL, aOne, ↓reduceIte, Nat.reduceLT, Nat.reduceEqDiff, eq_self, ne_eq, tyE_33, hlt] | (with_reducible refine aIf_split (fun _ => ?_) (fun _ => ?_)) | (with_reducible refine aSel_split (fun _ => ?_) (fun _ => ?_)) | (with_reducible refine aGd_split (fun _ => ?_) (fun _ => ?_)) | (with_reducible refine aDraw_quiet (by kernel_rfl) ?_)))
            all_goals exact retV ⟨true, rfl, by simp; exact ⟨⟨g1, g2⟩, fun i h => hok i h (by omega)⟩⟩
    · have d2 : decide (31 < n) = true := by simpa using g2
      (repeat' (first | simp (maxSteps := 5000000) (implicitDefEqProofs := false) only [ruA, ruB, aEv, aBin, bin2, ASt.get, aget, ASt.put, aBox, aCells, oneC, oneCL, envOf, aResL, aOne, ↓reduceIte, Nat.reduceLT, Nat.reduceEqDiff, Nat.reduceAdd, eq_self, AV.shift, d1, d2] | (with_reducible refine aIf_split (fun _ => ?_) (fun _ => ?_)) | (with_reducible refine aSel_split (fun _ => ?_) (fun _ => ?_)) | (with_reducible refine aGd_split (fun _ => ?_) (fun _ => ?_)) | (with_reducible refine aDraw_quiet (by kernel_rfl) ?_) | ((with_reducible apply callT); exact (hS); exact (.inl (by simp [roL, roA])))))
      all_goals exact retV ⟨false, rfl, by simp; omega⟩
  · have d1 : decide (n < 0) = true := by simpa using g1
    (repeat' (first | simp (maxSteps := 5000000) (implicitDefEqProofs := false) only [ruA, ruB, aEv, aBin, bin2, ASt.get, aget, ASt.put, aBox, aCells, oneC, oneCL, envOf, aResL, aOne, ↓reduceIte, Nat.reduceLT, Nat.reduceEqDiff, Nat.reduceAdd, eq_self, AV.shift, d1] | (with_reducible refine aIf_split (fun _ => ?_) (fun _ => ?_)) | (with_reducible refine aSel_split (fun _ => ?_) (fun _ => ?_)) | (with_reducible refine aGd_split (fun _ => ?_) (fun _ => ?_)) | (with_reducible refine aDraw_quiet (by kernel_rfl) ?_) | ((with_reducible apply callT); exact (hS); exact (.inl (by simp [roL, roA])))))
    all_goals exact retV ⟨false, rfl, by simp; omega⟩
end
section
open Go.RowKit
theorem fixI_map (vals c : List Int) (L : List Int) : ∀ k, k ≤ L.length → (fixI (L.map (clsOf vals c)) k).map (fun i => L.getD i 0) = (L.take k).filter fun x => decide (x ∈ sortR c)
  | 0, _ => by simp [fixI]
  | k + 1, h => by
    have ih := fixI_map vals c L k (by omega)
    have hk : k < L.length := by omega
    have hup := (sortR_up c).1
    rw [fixI_snoc _ (by rw [List.length_map]; omega), List.take_succ_eq_append_getElem hk, List.filter_append, ← ih, List.getElem_map]
    have e : L.getD k 0 = L[k] := by rw [List.getD_eq_getElem?_getD, List.getElem?_eq_getElem hk]; rfl
    have hc : (clsOf vals c L[k]).const = constN (sortR c) L[k] (sortR c).length := rfl
    rcases const_in hup L[k] with ⟨h1, h2⟩ | ⟨i, hi, h1, h2⟩
    · rw [if_neg (by rw [hc, h2]; omega)]
      simp [h1]
    · have hm : L[k] ∈ sortR c := h1 ▸ List.getElem_mem hi
      rw [if_pos (by rw [hc, h2]; omega), List.map_append]
      simp [hm, hk]
theorem fix_zone (vals c : List Int) (r : Int) : (fixL (zoneM vals c r)).map (fun i => (numsL vals c).getD i 0) = sortR c := by
  have hL : Up (numsL vals c) := (sortR_up (vals ++ c)).1
  have hm := (sortR_up (vals ++ c)).2
  have hsc := (sortR_up c).1
  have hscm := (sortR_up c).2
  have hin : ∀ x ∈ sortR c, x ∈ numsL vals c := fun x hx => (hm x).2 (List.mem_append_right _ ((hscm x).1 hx))
  have e : fixL (zoneM vals c r) = fixI ((numsL vals c).map (clsOf vals c)) (numsL vals c).length := by
    show fixI (clsL vals c) (clsL vals c).length = _
    unfold clsL
    rw [List.length_map]
  rw [e, fixI_map vals c _ _ (Nat.le_refl _), List.take_length]
  refine up_ext _ _ (List.Pairwise.filter _ hL) hsc fun z => ?_
  simp only [List.mem_filter, decide_eq_true_eq]
  exact ⟨fun h => h.2, fun h => ⟨hin z h, h⟩⟩
theorem gapsN_len (L : List Int) (r : Int) : (gapsN L r L.length).length = L.length - 1 := by simp [gapsN]
theorem gapsN_get (L : List Int) (r : Int) {i : Nat} (h : i + 1 < L.length) : (gapsN L r L.length)[i]? = some (gapV (L.getD i 0) (L.getD (i + 1) 0) (capV r)) := by
  unfold gapsN
  rw [List.getElem?_map, List.getElem?_range (by omega)]
  rfl
theorem gapsPQ_same (z : Zn) (p : Nat) : gapsPQ z p p = [] := by
  unfold gapsPQ
  rw [List.drop_eq_nil_iff, List.length_take]
  omega
theorem gapsPQ_snoc (z : Zn) {p q : Nat} {g : Int} (h : z.gaps[q]? = some g) (hpq : p ≤ q) : gapsPQ z p (q + 1) = gapsPQ z p q ++ [g] := by
  have hq : q < z.gaps.length := (List.getElem?_eq_some_iff.1 h).1
  unfold gapsPQ
  rw [List.take_add_one, h, List.drop_append_of_le_length (by rw [List.length_take]; omega)]
  rfl
theorem room_sum (vals c : List Int) (r : Int) (p : Nat) : ∀ d, p + d < (numsL vals c).length → 0 < d →
    ((d : Int) - 1 + (gapsPQ (zoneM vals c r) p (p + d)).sum ≤ (numsL vals c).getD (p + d) 0 - (numsL vals c).getD p 0 - 1 ∧ 0 ≤ (gapsPQ (zoneM vals c r) p (p + d)).sum) ∧
    ((∃ g ∈ gapsPQ (zoneM vals c r) p (p + d), g = capV r) ∨ (d : Int) - 1 + (gapsPQ (zoneM vals c r) p (p + d)).sum = (numsL vals c).getD (p + d) 0 - (numsL vals c).getD p 0 - 1)
  | 0, _, h => by omega
  | d + 1, hd, _ => by
    have hL : Up (numsL vals c) := (sortR_up (vals ++ c)).1
    have hg := gapsN_get (numsL vals c) r (i := p + d) (by omega)
    have hs := gapsPQ_snoc (zoneM vals c r) (p := p) (q := p + d) hg (by omega)
    have hlt := List.pairwise_iff_getElem.1 hL (p + d) (p + d + 1) (by omega) (by omega) (by omega)
    have e1 : (numsL vals c).getD (p + d) 0 = (numsL vals c)[p + d] := by rw [List.getD_eq_getElem?_getD, List.getElem?_eq_getElem (by omega)]; rfl
    have e2 : (numsL vals c).getD (p + d + 1) 0 = (numsL vals c)[p + d + 1] := by rw [List.getD_eq_getElem?_getD, List.getElem?_eq_getElem (by omega)]; rfl
    rw [← e1, ← e2] at hlt
    have hcap := capV_0 r
    have hgv : gapV ((numsL vals c).getD (p + d) 0) ((numsL vals c).getD (p + d + 1) 0) (capV r) = capV r ∨ gapV ((numsL vals c).getD (p + d) 0) ((numsL vals c).getD (p + d + 1) 0) (capV r) = (numsL vals c).getD (p + d + 1) 0 - (numsL vals c).getD (p + d) 0 - 1 := by
      unfold gapV
      omega
    have hgb : 0 ≤ gapV ((numsL vals c).getD (p + d) 0) ((numsL vals c).getD (p + d + 1) 0) (capV r) ∧ gapV ((numsL vals c).getD (p + d) 0) ((numsL vals c).getD (p + d + 1) 0) (capV r) ≤ (numsL vals c).getD (p + d + 1) 0 - (numsL vals c).getD (p + d) 0 - 1 := by
      unfold gapV
      omega
    generalize gapV ((numsL vals c).getD (p + d) 0) ((numsL vals c).getD (p + d + 1) 0) (capV r) = g at *
    show _ ∧ _
    rw [show p + (d + 1) = p + d + 1 from rfl, hs, List.sum_append, List.sum_singleton]
    have hpush : ((d + 1 : Nat) : Int) = (d : Int) + 1 := by omega
    rw [hpush]
    rcases Nat.eq_zero_or_pos d with rfl | hd0
    · rw [show p + 0 = p from rfl] at *
      rw [gapsPQ_same]
      simp only [List.sum_nil, List.nil_append, List.mem_singleton]
      clear hL hg hs
      refine ⟨by omega, ?_⟩
      rcases hgv with h | h
      · exact .inl ⟨g, rfl, h⟩
      · exact .inr (by omega)
    · obtain ⟨⟨h1, h0⟩, h2⟩ := room_sum vals c r p d (by omega) hd0
      clear hL hg hs
      refine ⟨by omega, ?_⟩
      rcases hgv with h | h
      · exact .inl ⟨g, List.mem_append_right _ (List.mem_singleton.2 rfl), h⟩
      · rcases h2 with ⟨x, hx, h3⟩ | h2
        · exact .inl ⟨x, List.mem_append_left _ hx, h3⟩
        · exact .inr (by omega)
theorem check_zone (vals c : List Int) (r : Int) (hv : vals.length ≤ 31) : CheckP (zoneM vals c r) (vals.length : Int) c r := by
  have hcap := capV_0 r
  have hcl : (zoneM vals c r).cls.length = (numsL vals c).length := by show (clsL vals c).length = _; unfold clsL; rw [List.length_map]
  have hgl : (zoneM vals c r).gaps.length = (numsL vals c).length - 1 := gapsN_len _ r
  refine ⟨⟨⟨by omega, by omega⟩, formed_zone vals c hv, by omega, fun i hi => ?_⟩, fun i hi => ?_⟩
  · rw [hgl] at hi
    have h := gapsN_get (numsL vals c) r (i := i) (by omega)
    have e : (zoneM vals c r).gaps[i] = gapV ((numsL vals c).getD i 0) ((numsL vals c).getD (i + 1) 0) (capV r) := by
      have h2 : (zoneM vals c r).gaps[i]? = some (zoneM vals c r).gaps[i] := List.getElem?_eq_getElem (by omega)
      exact Option.some.inj (h2.symm.trans h)
    rw [e]
    unfold gapV
    omega
  · have hf := fix_zone vals c r
    have hup : (fixL (zoneM vals c r)).Pairwise (· < ·) := fixI_up _ _
    have hlt2 : ∀ j ∈ fixL (zoneM vals c r), j < (zoneM vals c r).cls.length := fun j hj => fixI_mem _ _ hj
    have hval : ∀ j, j < (fixL (zoneM vals c r)).length → (numsL vals c).getD ((fixL (zoneM vals c r)).getD j 0) 0 = (sortR c).getD j 0 := fun j hj => by
      rw [← hf]
      simp [List.getD_eq_getElem?_getD, List.getElem?_map, List.getElem?_eq_getElem hj]
    have a1 := hval i (by omega)
    have a2 := hval (i + 1) hi
    have e1 : (fixL (zoneM vals c r)).getD i 0 = (fixL (zoneM vals c r))[i] := by rw [List.getD_eq_getElem?_getD, List.getElem?_eq_getElem (by omega)]; rfl
    have e2 : (fixL (zoneM vals c r)).getD (i + 1) 0 = (fixL (zoneM vals c r))[i + 1] := by rw [List.getD_eq_getElem?_getD, List.getElem?_eq_getElem (by omega)]; rfl
    have h5 := List.pairwise_iff_getElem.1 hup i (i + 1) (by omega) hi (by omega)
    have h6 := hlt2 _ (List.getElem_mem hi)
    rw [← e1, ← e2] at h5
    rw [← e2, hcl] at h6
    rw [← a1, ← a2]
    clear hf hup hlt2 hval a1 a2 e1 e2
    generalize (fixL (zoneM vals c r)).getD i 0 = p at *
    generalize (fixL (zoneM vals c r)).getD (i + 1) 0 = q at *
    obtain ⟨d, rfl⟩ : ∃ d, q = p + d := ⟨q - p, by omega⟩
    obtain ⟨⟨h1, h0⟩, h2⟩ := room_sum vals c r p d h6 (by omega)
    unfold RoomP
    have ed : ((p + d : Nat) : Int) - (p : Int) - 1 = (d : Int) - 1 := by omega
    rw [ed]
    generalize (gapsPQ (zoneM vals c r) p (p + d)).sum = S at *
    generalize (numsL vals c).getD (p + d) 0 = b at *
    generalize (numsL vals c).getD p 0 = a at *
    have hd : 0 < d := by omega
    by_cases hS : (d : Int) - 1 + S = b - a - 1
    · refine .inl ?_
      unfold gapV
      omega
    · rcases h2 with h2 | h2
      · refine .inr ⟨h2, ?_⟩
        unfold gapV
        omega
      · exact absurd h2 hS
end
section
open Go.RowKit
theorem zoneM_len (vals c : List Int) (r : Int) (hv : vals.length ≤ 31) (hc : c.length ≤ 31) : (zoneM vals c r).cls.length ≤ 1000000 ∧ (zoneM vals c r).gaps.length ≤ 1000000 := by
  have h := sortR_len (vals ++ c)
  have e : (zoneM vals c r).gaps.length = (numsL vals c).length - 1 := gapsN_len _ r
  have e2 : (zoneM vals c r).cls.length = (numsL vals c).length := by show (clsL vals c).length = _; unfold clsL; rw [List.length_map]
  rw [List.length_append] at h
  have h2 : (numsL vals c).length ≤ vals.length + c.length := h
  omega
theorem sameZz_A (z : Zn) (h1 : z.cls.length ≤ 1000000) (h2 : z.gaps.length ≤ 1000000) : ADet Tryz.prog 27 [.agg (eZn z), .agg (eZn z)] (val (.bool true)) :=
  (sameZ_A z z h1 h2).mono fun R ⟨b, h3, h4⟩ => by rw [h3, h4.2 rfl]
end
end Go.Proofs.YtmcegfoaceilgaaGreat
