/-
  Parts of the proof: SoK, W5, E9, SoM, SoN, SoO.
-/
import Derived.Test.YtodbhccfajgekaaGreatDoorNtx10
set_option linter.unusedVariables false
set_option linter.unusedSimpArgs false
namespace Go.Proofs.YtodbhccfajgekaaGreatDoor
section
open Go.RowKit
theorem clsTy : (Tryz.prog.fieldsOf 46).toList.map (fun f => (f.name, f.type, f.offset)) = [("Attrs", 3, 0), ("Const", 3, 1)] := by kernel_rfl
theorem clsBin (op : BinOp) (hop : op = .eql ∨ op = .neq) (a b : Cls) : BinRun Tryz.prog op 46 (.agg #[.int .i64 a.attrs, .int .i64 a.const]) (.agg #[.int .i64 b.attrs, .int .i64 b.const]) (.bool (if op matches .eql then (a.attrs == b.attrs && a.const == b.const) else !(a.attrs == b.attrs && a.const == b.const))) := by
  have ht := clsTy
  obtain ⟨f, g, hfs⟩ : ∃ f g, (Tryz.prog.fieldsOf 46).toList = [f, g] := by
    generalize (Tryz.prog.fieldsOf 46).toList = l at ht ⊢
    cases l with
    | nil => simp at ht
    | cons f l => cases l with
      | nil => simp at ht
      | cons g l => cases l with
        | nil => exact ⟨f, g, rfl⟩
        | cons h l => simp at ht
  rw [hfs] at ht
  simp only [List.map_cons, List.map_nil, List.cons.injEq, Prod.mk.injEq, and_true] at ht
  obtain ⟨⟨h1, h2, h3⟩, h4, h5, h6⟩ := ht
  refine structRun [(.int .i64 a.attrs, .int .i64 b.attrs), (.int .i64 a.const, .int .i64 b.const)] (by kernel_rfl) (by kernel_rfl) (by kernel_rfl) (by rw [hfs]; rfl) (fun k f' p hk hp => ?_) (by simp [cellsEq, cellEq]) hop
  rw [hfs] at hk
  match k, hk, hp with
  | 0, hk, hp =>
    cases hk
    cases hp
    refine ⟨by rw [h1]; decide, ?_, by rw [h3]; rfl, by rw [h3]; rfl⟩
    rw [h2]
    kernel_rfl
  | 1, hk, hp =>
    cases hk
    cases hp
    refine ⟨by rw [h4]; decide, ?_, by rw [h6]; rfl, by rw [h6]; rfl⟩
    rw [h5]
    kernel_rfl
  | k + 2, hk, hp => simp at hk
instance : DecidableEq Cls := fun a b => decidable_of_iff (a.attrs = b.attrs ∧ a.const = b.const) (by cases a; cases b; simp)
theorem clsNe (x y : Cls) : BinRun Tryz.prog .neq 46 (.agg #[.int .i64 x.attrs, .int .i64 x.const]) (.agg #[.int .i64 y.attrs, .int .i64 y.const]) (.bool (decide (x ≠ y))) := by
  have h := clsBin .neq (.inr rfl) x y
  have e : decide (x ≠ y) = !(x.attrs == y.attrs && x.const == y.const) := by
    rw [Bool.eq_iff_iff]
    cases x
    cases y
    simp
  rw [e]
  exact h
theorem zn_ext {a b : Zn} (h1 : a.cls = b.cls) (h2 : a.gaps = b.gaps) : a = b := by
  cases a
  cases b
  simp at h1 h2
  rw [h1, h2]
theorem list_same {α : Type} {a b : List α} (hl : a.length = b.length) (h : ∀ i (h1 : i < a.length) (h2 : i < b.length), a[i] = b[i]) : a = b := List.ext_getElem hl h
set_option maxRecDepth 100000 in
set_option maxHeartbeats 8000000 in
theorem sameZ_A (a b : Zn) (h1 : a.cls.length ≤ 1000000) (h2 : a.gaps.length ≤ 1000000) : ARel Tryz.prog 15 [.agg (eZn a), .agg (eZn b)] fun R => ∃ t, R = val (.bool t) ∧ (t = true ↔ a = b) := by
  refine arel_of_code mixedT Tryz.func15 rfl (by decide) Tryz.ntmps15 Tryz.results15 rfl ?_
  have no1 : a.cls.length ≠ b.cls.length → ¬ a = b := fun h e => h (by rw [e])
  have no2 : a.gaps.length ≠ b.gaps.length → ¬ a = b := fun h e => h (by rw [e])
  by_cases hl1 : a.cls.length = b.cls.length
  · have d1 : ((a.cls.length : Int) != (b.cls.length : Int)) = false := by simp [hl1]
    by_cases hl2 : a.gaps.length = b.gaps.length
    · have d2 : ((a.gaps.length : Int) != (b.gaps.length : Int)) = false := by simp [hl2]
      (repeat' (first | simp (maxSteps := 5000000) (implicitDefEqProofs := false) only [ruA, ruB, aEv, aTake, aLoad, aField, aLen, aBin, bin2, ASt.get, aget, ASt.put, aBox, aCells, oneC, oneCL, envOf, ↓reduceIte, reduceCtorEq, Nat.reduceLT, Nat.reduceEqDiff, Nat.reduceAdd, Nat.reduceLeDiff, eq_self, ne_eq, tyF_25_0, tyA_22, tyS_22, tyE_22, tyF_25_1, tyA_23, tyS_23, tyE_23, d1, d2] | (with_reducible refine aIf_split (fun _ => ?_) (fun _ => ?_)) | (with_reducible refine aSel_split (fun _ => ?_) (fun _ => ?_)) | (with_reducible refine aGd_split (fun _ => ?_) (fun _ => ?_)) | (with_reducible refine aDraw_quiet (by kernel_rfl) ?_)))
      refine aLoop_of (fun st => ∃ k : Nat, k ≤ a.cls.length ∧ (∀ i (h1 : i < a.cls.length) (h2 : i < b.cls.length), i < k → a.cls[i] = b.cls[i]) ∧ st = ⟨59, [(2, .op 0 0 0), (3, .op 1 0 0), (5, eI (k : Int))], [(0, some (.box 25 (eZn a))), (1, some (.box 25 (eZn b)))], 2⟩) (fun st => a.cls.length - slotN st 5) ⟨_, (weak_cut1 (by (first | ((simp only [envIn, tabIn, envLt, tabLt, AObj.lt, AV.lt, AV.ltL, ruW, ASt.get, aget, ↓reduceIte, reduceCtorEq, Nat.reduceLT, Nat.reduceEqDiff, eq_self]) <;> (repeat' apply And.intro) <;> first | (rw [wrapK (by omega)]; done) | (simp; done) | omega) | fail))), 0, Nat.zero_le _, fun i _ _ h => by omega, rfl⟩ ?_
      rintro _ ⟨k, hk, hs, rfl⟩
      by_cases hlt : k < a.cls.length
      · have hlt2 : k < b.cls.length := by omega
        have hB := clsNe a.cls[k] b.cls[k]
        by_cases hxy : a.cls[k] = b.cls[k]
        · rw [decide_eq_false (by simpa using hxy)] at hB
          obtain ⟨x, hx⟩ : ∃ x, a.cls[k] = x := ⟨_, rfl⟩
          obtain ⟨y, hy⟩ : ∃ y, b.cls[k] = y := ⟨_, rfl⟩
          rw [hx, hy] at hB
          (repeat' (first | simp (maxSteps := 5000000) (implicitDefEqProofs := false) only [ruA, ruB, aEv, aTake, aLoad, aField, aIndex, aLen, aBin, bin2, ASt.get, aget, ASt.put, allC, aBinS, ↓reduceIte, reduceCtorEq, Nat.reduceLT, Nat.reduceEqDiff, Nat.reduceAdd, Nat.reduceLeDiff, eq_self, ne_eq, tyF_25_0, tyA_22, tyS_22, tyE_22, tyA_46, tyS_46, row_at, hlt, hlt2, hx, hy] | (with_reducible refine aIf_split (fun _ => ?_) (fun _ => ?_)) | (with_reducible refine aSel_split (fun _ => ?_) (fun _ => ?_)) | (with_reducible refine aGd_split (fun _ => ?_) (fun _ => ?_)) | (with_reducible refine aDraw_quiet (by kernel_rfl) ?_)))
          all_goals refine ⟨_, hB, ?_⟩
          all_goals (repeat' (first | simp (maxSteps := 5000000) (implicitDefEqProofs := false) only [ruA, aEv, aBin, bin2, ASt.get, aget, ASt.put, ↓reduceIte, Nat.reduceLT, Nat.reduceEqDiff, eq_self] | (with_reducible refine aIf_split (fun _ => ?_) (fun _ => ?_)) | (with_reducible refine aSel_split (fun _ => ?_) (fun _ => ?_)) | (with_reducible refine aGd_split (fun _ => ?_) (fun _ => ?_)) | (with_reducible refine aDraw_quiet (by kernel_rfl) ?_)))
          all_goals exact roundI (weak_cut1 (by (first | ((simp only [envIn, tabIn, envLt, tabLt, AObj.lt, AV.lt, AV.ltL, ruW, ASt.get, aget, ↓reduceIte, Nat.reduceLT, Nat.reduceEqDiff, eq_self]) <;> (repeat' apply And.intro) <;> first | (rw [wrapK (by omega)]; done) | (simp; done) | omega) | fail))) ⟨k + 1, by omega, fun i h1 h2 h3 => (by
            rcases Nat.lt_or_ge i k with h | h
            · exact hs i h1 h2 h
            · obtain rfl : i = k := by omega
              exact hxy), rfl⟩ (by simp only [slotN, ASt.get, aget, ↓reduceIte, Nat.reduceLT, Nat.reduceEqDiff, eq_self]; omega)
        · rw [decide_eq_true hxy] at hB
          have hno : ¬ a = b := fun e => hxy (by subst e; rfl)
          obtain ⟨x, hx⟩ : ∃ x, a.cls[k] = x := ⟨_, rfl⟩
          obtain ⟨y, hy⟩ : ∃ y, b.cls[k] = y := ⟨_, rfl⟩
          rw [hx, hy] at hB
          (repeat' (first | simp (maxSteps := 5000000) (implicitDefEqProofs := false) only [ruA, ruB, aEv, aTake, aLoad, aField, aIndex, aLen, aBin, bin2, ASt.get, aget, ASt.put, allC, aBinS, ↓reduceIte, reduceCtorEq, Nat.reduceLT, Nat.reduceEqDiff, Nat.reduceAdd, Nat.reduceLeDiff, eq_self, ne_eq, tyF_25_0, tyA_22, tyS_22, tyE_22, tyA_46, tyS_46, row_at, hlt, hlt2, hx, hy] | (with_reducible refine aIf_split (fun _ => ?_) (fun _ => ?_)) | (with_reducible refine aSel_split (fun _ => ?_) (fun _ => ?_)) | (with_reducible refine aGd_split (fun _ => ?_) (fun _ => ?_)) | (with_reducible refine aDraw_quiet (by kernel_rfl) ?_)))
          all_goals refine ⟨_, hB, ?_⟩
          all_goals (repeat' (first | simp (maxSteps := 5000000) (implicitDefEqProofs := false) only [ruA, aEv, ASt.get, aget, ASt.put, aResL, aOne, ↓reduceIte, Nat.reduceLT, eq_self] | (with_reducible refine aIf_split (fun _ => ?_) (fun _ => ?_)) | (with_reducible refine aSel_split (fun _ => ?_) (fun _ => ?_)) | (with_reducible refine aGd_split (fun _ => ?_) (fun _ => ?_)) | (with_reducible refine aDraw_quiet (by kernel_rfl) ?_)))
          all_goals exact retV ⟨false, rfl, by simp; exact hno⟩
      · have hcls : a.cls = b.cls := list_same hl1 fun i h1 h2 => hs i h1 h2 (by omega)
        (repeat' (first | simp (maxSteps := 5000000) (implicitDefEqProofs := false) only [ruA, ruB, aEv, aTake, aLoad, aField, aLen, aBin, bin2, ASt.get, aget, ASt.put, ↓reduceIte, reduceCtorEq, Nat.reduceLT, Nat.reduceEqDiff, Nat.reduceAdd, Nat.reduceLeDiff, eq_self, ne_eq, tyF_25_0, tyA_22, tyS_22, tyE_22, hlt] | (with_reducible refine aIf_split (fun _ => ?_) (fun _ => ?_)) | (with_reducible refine aSel_split (fun _ => ?_) (fun _ => ?_)) | (with_reducible refine aGd_split (fun _ => ?_) (fun _ => ?_)) | (with_reducible refine aDraw_quiet (by kernel_rfl) ?_)))
        refine aLoop_of (fun st => ∃ k : Nat, k ≤ a.gaps.length ∧ (∀ i (h1 : i < a.gaps.length) (h2 : i < b.gaps.length), i < k → a.gaps[i] = b.gaps[i]) ∧ st = ⟨59, [(2, .op 0 0 0), (3, .op 1 0 0), (6, eI (k : Int))], [(0, some (.box 25 (eZn a))), (1, some (.box 25 (eZn b)))], 2⟩) (fun st => a.gaps.length - slotN st 6) ⟨_, (weak_cut1 (by (first | ((simp only [envIn, tabIn, envLt, tabLt, AObj.lt, AV.lt, AV.ltL, ruW, ASt.get, aget, ↓reduceIte, Nat.reduceLT, Nat.reduceEqDiff, eq_self]) <;> (repeat' apply And.intro) <;> first | (rw [wrapK (by omega)]; done) | (simp; done) | omega) | fail))), 0, Nat.zero_le _, fun i _ _ h => by omega, rfl⟩ ?_
        rintro _ ⟨k, hk, hs2, rfl⟩
        by_cases hlt2 : k < a.gaps.length
        · have hlt3 : k < b.gaps.length := by omega
          by_cases hxy : a.gaps[k] = b.gaps[k]
          · have d3 : (a.gaps[k] != b.gaps[k]) = false := by simpa using hxy
            (repeat' (first | simp (maxSteps := 5000000) (implicitDefEqProofs := false) only [ruA, ruB, aEv, aTake, aLoad, aField, aIndex, aLen, aBin, bin2, ASt.get, aget, ASt.put, ↓reduceIte, reduceCtorEq, Nat.reduceLT, Nat.reduceEqDiff, eq_self, ne_eq, tyF_25_1, tyA_23, tyS_23, tyE_23, tyA_3, tyS_3, row_at, hlt2, hlt3, d3] | (with_reducible refine aIf_split (fun _ => ?_) (fun _ => ?_)) | (with_reducible refine aSel_split (fun _ => ?_) (fun _ => ?_)) | (with_reducible refine aGd_split (fun _ => ?_) (fun _ => ?_)) | (with_reducible refine aDraw_quiet (by kernel_rfl) ?_)))
            all_goals exact roundI (weak_cut1 (by (first | ((simp only [envIn, tabIn, envLt, tabLt, AObj.lt, AV.lt, AV.ltL, ruW, ASt.get, aget, ↓reduceIte, Nat.reduceLT, Nat.reduceEqDiff, eq_self]) <;> (repeat' apply And.intro) <;> first | (rw [wrapK (by omega)]; done) | (simp; done) | omega) | fail))) ⟨k + 1, by omega, fun i h1 h2 h3 => (by
              rcases Nat.lt_or_ge i k with h | h
              · exact hs2 i h1 h2 h
              · obtain rfl : i = k := by omega
                exact hxy), rfl⟩ (by simp only [slotN, ASt.get, aget, ↓reduceIte, Nat.reduceLT, Nat.reduceEqDiff, eq_self]; omega)
          · have d3 : (a.gaps[k] != b.gaps[k]) = true := by simpa using hxy
            have hno : ¬ a = b := fun e => hxy (by subst e; rfl)
            (repeat' (first | simp (maxSteps := 5000000) (implicitDefEqProofs := false) only [ruA, ruB, aEv, aTake, aLoad, aField, aIndex, aLen, aBin, bin2, ASt.get, aget, ASt.put, aResL, aOne, ↓reduceIte, reduceCtorEq, Nat.reduceLT, Nat.reduceEqDiff, eq_self, ne_eq, tyF_25_1, tyA_23, tyS_23, tyE_23, tyA_3, tyS_3, row_at, hlt2, hlt3, d3] | (with_reducible refine aIf_split (fun _ => ?_) (fun _ => ?_)) | (with_reducible refine aSel_split (fun _ => ?_) (fun _ => ?_)) | (with_reducible refine aGd_split (fun _ => ?_) (fun _ => ?_)) | (with_reducible refine aDraw_quiet (by kernel_rfl) ?_)))
            all_goals exact retV ⟨false, rfl, by simp; exact hno⟩
        · have hgaps : a.gaps = b.gaps := list_same hl2 fun i h1 h2 => hs2 i h1 h2 (by omega)
          (repeat' (first | simp (maxSteps := 5000000) (implicitDefEqProofs := false) only [ruA, ruB, aEv, aTake, aLoad, aField, aLen, aBin, bin2, ASt.get, aget, ASt.put, aResL, aOne, ↓reduceIte, reduceCtorEq, Nat.reduceLT, Nat.reduceEqDiff, eq_self, ne_eq, tyF_25_1, tyA_23, tyS_23, tyE_23, hlt2] | (with_reducible refine aIf_split (fun _ => ?_) (fun _ => ?_)) | (with_reducible refine aSel_split (fun _ => ?_) (fun _ => ?_)) | (with_reducible refine aGd_split (fun _ => ?_) (fun _ => ?_)) | (with_reducible refine aDraw_quiet (by kernel_rfl) ?_)))
          all_goals exact retV ⟨true, rfl, by simp; exact zn_ext hcls hgaps⟩
    · have d2 : ((a.gaps.length : Int) != (b.gaps.length : Int)) = true := by simp; omega
      (repeat' (first | simp (maxSteps := 5000000) (implicitDefEqProofs := false) only [ruA, ruB, aEv, aTake, aLoad, aField, aLen, aBin, bin2, ASt.get, aget, ASt.put, aBox, aCells, oneC, oneCL, envOf, aResL, aOne, ↓reduceIte, reduceCtorEq, Nat.reduceLT, Nat.reduceEqDiff, Nat.reduceAdd, Nat.reduceLeDiff, eq_self, ne_eq, tyF_25_0, tyA_22, tyS_22, tyE_22, tyF_25_1, tyA_23, tyS_23, tyE_23, d1, d2] | (with_reducible refine aIf_split (fun _ => ?_) (fun _ => ?_)) | (with_reducible refine aSel_split (fun _ => ?_) (fun _ => ?_)) | (with_reducible refine aGd_split (fun _ => ?_) (fun _ => ?_)) | (with_reducible refine aDraw_quiet (by kernel_rfl) ?_)))
      exact retV ⟨false, rfl, by simp; exact no2 hl2⟩
  · have d1 : ((a.cls.length : Int) != (b.cls.length : Int)) = true := by simp; omega
    (repeat' (first | simp (maxSteps := 5000000) (implicitDefEqProofs := false) only [ruA, ruB, aEv, aTake, aLoad, aField, aLen, aBin, bin2, ASt.get, aget, ASt.put, aBox, aCells, oneC, oneCL, envOf, aResL, aOne, ↓reduceIte, reduceCtorEq, Nat.reduceLT, Nat.reduceEqDiff, Nat.reduceAdd, Nat.reduceLeDiff, eq_self, ne_eq, tyF_25_0, tyA_22, tyS_22, tyE_22, d1] | (with_reducible refine aIf_split (fun _ => ?_) (fun _ => ?_)) | (with_reducible refine aSel_split (fun _ => ?_) (fun _ => ?_)) | (with_reducible refine aGd_split (fun _ => ?_) (fun _ => ?_)) | (with_reducible refine aDraw_quiet (by kernel_rfl) ?_)))
    exact retV ⟨false, rfl, by simp; exact no1 hl1⟩
set_option maxRecDepth 100000 in
theorem greatZ_A (z : Zn) : ARel Tryz.prog 9 [.agg (eZn z)] fun R => ∃ b, R = val (.bool b) ∧ (b = false → z.cls.length ≤ 40 ∧ z.gaps.length ≤ 40) := by
  refine arel_of_code mixedT Tryz.func9 rfl (by decide) Tryz.ntmps9 Tryz.results9 rfl ?_
  (repeat' (first | simp (maxSteps := 5000000) (implicitDefEqProofs := false) only [ruA, ruB, aEv, aTake, aLoad, aField, aLen, aBin, bin2, ASt.get, aget, ASt.put, aBox, aCells, oneC, oneCL, envOf, aResL, aOne, ↓reduceIte, reduceCtorEq, Nat.reduceLT, Nat.reduceEqDiff, Nat.reduceAdd, Nat.reduceLeDiff, eq_self, ne_eq, tyF_25_0, tyA_22, tyS_22, tyE_22, tyF_25_1, tyA_23, tyS_23, tyE_23] | (with_reducible refine aIf_split (fun _ => ?_) (fun _ => ?_)) | (with_reducible refine aSel_split (fun _ => ?_) (fun _ => ?_)) | (with_reducible refine aGd_split (fun _ => ?_) (fun _ => ?_)) | (with_reducible refine aDraw_quiet (by kernel_rfl) ?_)))
  all_goals (rename_i h; simp at h)
  · exact retV ⟨true, rfl, by simp⟩
  · refine retV ⟨_, rfl, fun hb => ?_⟩
    simp at hb
    omega
end
section
open Go.RowKit
theorem cut_inj {s : UInt8} {x y a b : List UInt8} (hx : ∀ d ∈ x, d ≠ s) (hy : ∀ d ∈ y, d ≠ s) (h : x ++ s :: a = y ++ s :: b) : x = y ∧ a = b := by
  induction x generalizing y with
  | nil =>
    cases y with
    | nil => exact ⟨rfl, by simpa using h⟩
    | cons d y =>
      simp only [List.nil_append, List.cons_append, List.cons.injEq] at h
      exact absurd h.1.symm (hy d (List.mem_cons_self ..))
  | cons c x ih =>
    cases y with
    | nil =>
      simp only [List.nil_append, List.cons_append, List.cons.injEq] at h
      exact absurd h.1 (hx c (List.mem_cons_self ..))
    | cons d y =>
      simp only [List.cons_append, List.cons.injEq] at h
      obtain ⟨h1, h2⟩ := ih (fun e he => hx e (List.mem_cons_of_mem _ he)) (fun e he => hy e (List.mem_cons_of_mem _ he)) h.2
      exact ⟨by rw [h.1, h1], h2⟩
/-- a number's text has digits and a sign alone -/
theorem itoa_dig (n : Int) : ∀ d ∈ Lib.itoa n, d = 45 ∨ (48 ≤ d.toNat ∧ d.toNat ≤ 57) := by
  unfold Lib.itoa
  split
  · intro d hd
    rcases List.mem_cons.1 hd with rfl | hd
    · exact .inl rfl
    · exact .inr ((dec_val _ _ (Nat.le_refl _)).2.1 d hd)
  · exact fun d hd => .inr ((dec_val _ _ (Nat.le_refl _)).2.1 d hd)
theorem itoa_no (n : Int) (s : UInt8) (h1 : s ≠ 45) (h2 : ¬ (48 ≤ s.toNat ∧ s.toNat ≤ 57)) : ∀ d ∈ Lib.itoa n, d ≠ s := fun d hd e => by
  rcases itoa_dig n d hd with h | h
  · exact h1 (e ▸ h)
  · exact h2 (e ▸ h)
def clsW (c : Cls) : List UInt8 := Lib.itoa c.attrs ++ 58 :: Lib.itoa c.const
theorem clsW_inj {a b : Cls} (h : clsW a = clsW b) : a = b := by
  obtain ⟨h1, h2⟩ := cut_inj (itoa_no _ 58 (by decide) (by decide)) (itoa_no _ 58 (by decide) (by decide)) h
  cases a
  cases b
  have e1 := itoa_inj h1
  have e2 := itoa_inj h2
  simp at e1 e2
  rw [e1, e2]
def znW (z : Zn) : Nat → List (List UInt8)
  | 0 => []
  | k + 1 => znW z k ++ ((if z.gaps.length < k ∧ 0 < k then [[124]] else []) ++ (clsW (z.cls.getD k ⟨0, 0⟩) :: (if k < z.gaps.length then [Lib.itoa (z.gaps.getD k 0)] else [])))
def znG (z : Zn) : Nat → List (List UInt8)
  | 0 => znW z z.cls.length
  | j + 1 => znG z j ++ [[124], Lib.itoa (z.gaps.getD (z.cls.length + j) 0)]
def znWords (z : Zn) : List (List UInt8) := znG z (z.gaps.length - z.cls.length)
def isC (w : List UInt8) : Bool := w.contains 58
def isG (w : List UInt8) : Bool := !w.contains 58 && !(w == [124])
theorem isC_cls (c : Cls) : isC (clsW c) = true ∧ isG (clsW c) = false := by
  have : (clsW c).contains 58 = true := by simp [clsW]
  exact ⟨this, by unfold isG; rw [this]; rfl⟩
theorem isC_bar : isC [124] = false ∧ isG [124] = false := by decide
theorem isC_num (n : Int) : isC (Lib.itoa n) = false ∧ isG (Lib.itoa n) = true := by
  have h : (Lib.itoa n).contains 58 = false := by
    rw [Bool.eq_false_iff]
    intro h
    rw [List.contains_iff_mem] at h
    exact itoa_no n 58 (by decide) (by decide) 58 h rfl
  have h2 : (Lib.itoa n == [124]) = false := by
    rw [Bool.eq_false_iff]
    intro h2
    have h2 := eq_of_beq h2
    exact itoa_no n 124 (by decide) (by decide) 124 (by rw [h2]; exact List.mem_cons_self ..) rfl
  exact ⟨h, by unfold isG; rw [h, h2]; rfl⟩
theorem znW_filter (z : Zn) : ∀ k, k ≤ z.cls.length → (znW z k).filter isC = (z.cls.take k).map clsW ∧ (znW z k).filter isG = (z.gaps.take k).map Lib.itoa
  | 0, _ => by simp [znW]
  | k + 1, h => by
    obtain ⟨h1, h2⟩ := znW_filter z k (by omega)
    obtain ⟨c1, c2⟩ := isC_cls (z.cls.getD k ⟨0, 0⟩)
    have e : z.cls.getD k ⟨0, 0⟩ = z.cls[k] := by rw [List.getD_eq_getElem?_getD, List.getElem?_eq_getElem (by omega)]; rfl
    have hb : ∀ p : Prop, [Decidable p] → (if p then [[124]] else ([] : List (List UInt8))).filter isC = [] ∧ (if p then [[124]] else ([] : List (List UInt8))).filter isG = [] := fun p _ => by
      split
      · exact ⟨by rw [List.filter_cons, isC_bar.1]; rfl, by rw [List.filter_cons, isC_bar.2]; rfl⟩
      · exact ⟨rfl, rfl⟩
    unfold znW
    rw [List.filter_append, List.filter_append, List.filter_append, List.filter_append, h1, h2, (hb _).1, (hb _).2, List.filter_cons, List.filter_cons, c1, c2, e, List.take_succ_eq_append_getElem (by omega), List.map_append]
    by_cases hg : k < z.gaps.length
    · obtain ⟨g1, g2⟩ := isC_num (z.gaps.getD k 0)
      have e2 : z.gaps.getD k 0 = z.gaps[k] := by rw [List.getD_eq_getElem?_getD, List.getElem?_eq_getElem hg]; rfl
      rw [if_pos hg, List.filter_cons, List.filter_cons, g1, g2, List.take_succ_eq_append_getElem hg, List.map_append, e2]
      exact ⟨by simp, by simp⟩
    · rw [if_neg hg, List.take_of_length_le (show z.gaps.length ≤ k by omega), List.take_of_length_le (show z.gaps.length ≤ k + 1 by omega)]
      exact ⟨by simp, by simp⟩
theorem znG_filter (z : Zn) : ∀ j, (j = 0 ∨ z.cls.length + j ≤ z.gaps.length) → (znG z j).filter isC = z.cls.map clsW ∧ (znG z j).filter isG = (z.gaps.take (z.cls.length + j)).map Lib.itoa
  | 0, _ => by
    have h := znW_filter z z.cls.length (Nat.le_refl _)
    rw [List.take_length] at h
    exact h
  | j + 1, h => by
    have hj : z.cls.length + j < z.gaps.length := by omega
    obtain ⟨h1, h2⟩ := znG_filter z j (by omega)
    obtain ⟨g1, g2⟩ := isC_num (z.gaps.getD (z.cls.length + j) 0)
    have e2 : z.gaps.getD (z.cls.length + j) 0 = z.gaps[z.cls.length + j] := by rw [List.getD_eq_getElem?_getD, List.getElem?_eq_getElem hj]; rfl
    have hp1 : ([[124], Lib.itoa (z.gaps.getD (z.cls.length + j) 0)] : List (List UInt8)).filter isC = [] := by simp only [List.filter_cons, List.filter_nil, isC_bar.1, g1]; rfl
    have hp2 : ([[124], Lib.itoa (z.gaps.getD (z.cls.length + j) 0)] : List (List UInt8)).filter isG = [Lib.itoa (z.gaps.getD (z.cls.length + j) 0)] := by simp only [List.filter_cons, List.filter_nil, isC_bar.2, g2]; rfl
    unfold znG
    rw [List.filter_append, List.filter_append, h1, h2, hp1, hp2, show z.cls.length + (j + 1) = (z.cls.length + j) + 1 from rfl, List.take_succ_eq_append_getElem hj, List.map_append, e2]
    exact ⟨by simp, by simp⟩
theorem znWords_inj {a b : Zn} (h : znWords a = znWords b) : a = b := by
  have fin : ∀ z : Zn, (znWords z).filter isC = z.cls.map clsW ∧ (znWords z).filter isG = z.gaps.map Lib.itoa := fun z => by
    obtain ⟨h1, h2⟩ := znG_filter z (z.gaps.length - z.cls.length) (by omega)
    rw [List.take_of_length_le (by omega)] at h2
    exact ⟨h1, h2⟩
  have h1 := (fin a).1
  have h2 := (fin a).2
  rw [h, (fin b).1] at h1
  rw [h, (fin b).2] at h2
  have e1 := (List.map_inj_right fun x y hxy => clsW_inj hxy).1 h1
  have e2 := (List.map_inj_right fun x y hxy => itoa_inj hxy).1 h2
  exact zn_ext e1.symm e2.symm
/-- a word of a zone's text -/
def wordOk (w : List UInt8) : Prop := w ≠ [] ∧ ∀ d ∈ w, d ≠ 32 ∧ d ≠ 47
theorem num_wordOk (n : Int) : wordOk (Lib.itoa n) := ⟨(itoa_word n).2, fun d hd => ⟨itoa_no n 32 (by decide) (by decide) d hd, itoa_no n 47 (by decide) (by decide) d hd⟩⟩
theorem cls_wordOk (c : Cls) : wordOk (clsW c) := by
  refine ⟨by simp [clsW], fun d hd => ?_⟩
  unfold clsW at hd
  rcases List.mem_append.1 hd with hd | hd
  · exact (num_wordOk _).2 d hd
  · rcases List.mem_cons.1 hd with rfl | hd
    · decide
    · exact (num_wordOk _).2 d hd
theorem bar_wordOk : wordOk [124] := ⟨by simp, fun d hd => by rw [List.mem_singleton] at hd; subst hd; decide⟩
theorem znW_ok (z : Zn) : ∀ k, ∀ w ∈ znW z k, wordOk w
  | 0 => fun w hw => by cases hw
  | k + 1 => fun w hw => by
    unfold znW at hw
    rcases List.mem_append.1 hw with hw | hw
    · exact znW_ok z k w hw
    · rcases List.mem_append.1 hw with hw | hw
      · split at hw
        · rw [List.mem_singleton] at hw
          rw [hw]
          exact bar_wordOk
        · cases hw
      · rcases List.mem_cons.1 hw with rfl | hw
        · exact cls_wordOk _
        · split at hw
          · rw [List.mem_singleton] at hw
            rw [hw]
            exact num_wordOk _
          · cases hw
theorem znG_ok (z : Zn) : ∀ j, ∀ w ∈ znG z j, wordOk w
  | 0 => znW_ok z _
  | j + 1 => fun w hw => by
    unfold znG at hw
    rcases List.mem_append.1 hw with hw | hw
    · exact znG_ok z j w hw
    · rcases List.mem_cons.1 hw with rfl | hw
      · exact bar_wordOk
      · rw [List.mem_singleton] at hw
        rw [hw]
        exact num_wordOk _
theorem join_inj {xs ys : List (List UInt8)} (hx : ∀ w ∈ xs, wordOk w) (hy : ∀ w ∈ ys, wordOk w) (h : Lib.join xs [32] = Lib.join ys [32]) : xs = ys := by
  cases xs with
  | nil =>
    cases ys with
    | nil => rfl
    | cons y r =>
      rw [Lib.join_nil, Lib.join_cons] at h
      have := (hy y (List.mem_cons_self ..)).1
      exact absurd (List.append_eq_nil_iff.1 h.symm).1 this
  | cons x r =>
    cases ys with
    | nil =>
      rw [Lib.join_nil, Lib.join_cons] at h
      exact absurd (List.append_eq_nil_iff.1 h).1 (hx x (List.mem_cons_self ..)).1
    | cons y s =>
      rw [Lib.join_cons, Lib.join_cons] at h
      obtain ⟨h1, h2⟩ := word_inj (fun d hd => ((hx x (List.mem_cons_self ..)).2 d hd).1) (fun d hd => ((hy y (List.mem_cons_self ..)).2 d hd).1) (tail_form _) (tail_form _) h
      rw [h1, tail_inj r s (fun w hw d hd => ((hx w (List.mem_cons_of_mem _ hw)).2 d hd).1) (fun w hw d hd => ((hy w (List.mem_cons_of_mem _ hw)).2 d hd).1) h2]
def znText (z : Zn) : List UInt8 := Lib.join (znWords z) [32]
theorem znText_inj {a b : Zn} (h : znText a = znText b) : a = b := znWords_inj (join_inj (znG_ok a _) (znG_ok b _) h)
theorem tail_no : ∀ (r : List (List UInt8)), (∀ w ∈ r, wordOk w) → ∀ d ∈ Lib.joinTail [32] r, d ≠ 47
  | [], _, d, hd => by cases hd
  | x :: r, h, d, hd => by
    have e : Lib.joinTail [32] (x :: r) = 32 :: (x ++ Lib.joinTail [32] r) := rfl
    rw [e] at hd
    rcases List.mem_cons.1 hd with rfl | hd
    · decide
    · rcases List.mem_append.1 hd with hd | hd
      · exact ((h x (List.mem_cons_self ..)).2 d hd).2
      · exact tail_no r (fun w hw => h w (List.mem_cons_of_mem _ hw)) d hd
theorem znText_no (z : Zn) : ∀ d ∈ znText z, d ≠ 47 := fun d hd => by
  unfold znText at hd
  have hok := znG_ok z (z.gaps.length - z.cls.length)
  change ∀ w ∈ znWords z, wordOk w at hok
  cases hw : znWords z with
  | nil =>
    rw [hw, Lib.join_nil] at hd
    cases hd
  | cons x r =>
    rw [hw] at hd hok
    rw [Lib.join_cons] at hd
    rcases List.mem_append.1 hd with hd | hd
    · exact ((hok x (List.mem_cons_self ..)).2 d hd).2
    · exact tail_no r (fun w hw => hok w (List.mem_cons_of_mem _ hw)) d hd
def ndText (n : Nd) : List UInt8 := znText n.z ++ [32, 47, 32] ++ stText ⟨[], n.opn, n.don, n.did, n.cnt⟩
theorem ndText_inj {a b : Nd} (h : ndText a = ndText b) : a = b := by
  have e : ∀ n : Nd, ndText n = (znText n.z ++ [32]) ++ 47 :: (32 :: stText ⟨[], n.opn, n.don, n.did, n.cnt⟩) := fun n => by simp [ndText]
  have hno : ∀ n : Nd, ∀ d ∈ znText n.z ++ [32], d ≠ 47 := fun n d hd => by
    rcases List.mem_append.1 hd with hd | hd
    · exact znText_no _ d hd
    · rw [List.mem_singleton] at hd
      subst hd
      decide
  rw [e, e] at h
  obtain ⟨h1, h2⟩ := cut_inj (hno a) (hno b) h
  have h3 := znText_inj (List.append_cancel_right h1)
  rw [List.cons.injEq] at h2
  have h4 := stText_inj h2.2
  obtain ⟨z, o, d, i, c⟩ := a
  obtain ⟨z', o', d', i', c'⟩ := b
  simp at h3 h4
  obtain ⟨rfl, rfl, rfl, rfl⟩ := h4
  rw [h3]
end
section
open Go.RowKit
theorem eq_of_take {a b : List Int} {k : Nat} (hl : a.length = b.length) (h : a.take k = b.take k) (hk : a.length ≤ k) : a = b := by
  rwa [List.take_of_length_le hk, List.take_of_length_le (by omega)] at h
set_option maxRecDepth 100000 in
theorem equal64_A (a b : List Int) (ha : a.length ≤ 1000000) : ADet Tryz.prog 30 [sI a, sI b] (val (.bool (decide (a = b)))) := by
  refine adet_of_code mixedT Tryz.func30 rfl (by decide) Tryz.ntmps30 Tryz.results30 rfl (val_ok _) ?_
  by_cases hl : a.length = b.length
  · have hl' : (((a.length : Nat) : Int) != ((b.length : Nat) : Int)) = false := by simp [hl]
    (repeat' (first | simp (maxSteps := 5000000) (implicitDefEqProofs := false) only [ruA, ruB, aEv, aLen, aBin, bin2, ASt.get, aget, ASt.put, envOf, ↓reduceIte, reduceCtorEq, Nat.reduceLT, Nat.reduceEqDiff, eq_self, ne_eq, tyE_34, hl'] | (with_reducible refine aIf_split (fun _ => ?_) (fun _ => ?_)) | (with_reducible refine aSel_split (fun _ => ?_) (fun _ => ?_)) | (with_reducible refine aGd_split (fun _ => ?_) (fun _ => ?_))))
    refine aLoop_of (fun st => ∃ k : Nat, k ≤ a.length ∧ a.take k = b.take k ∧ st = ⟨26, [(0, sI a), (1, sI b), (12, eI (a.length : Int)), (13, eI (k : Int))], [], 0⟩) (fun st => a.length - slotN st 13) ⟨_, (weak_cut1 (by (first | ((simp only [envIn, tabIn, envLt, tabLt, AV.lt, ruW, ASt.get, aget, ↓reduceIte, reduceCtorEq, Nat.reduceLT, Nat.reduceEqDiff, eq_self]) <;> (repeat' apply And.intro) <;> first | (rw [wrapK (by omega)]; done) | (simp; done) | omega) | fail))), 0, Nat.zero_le _, rfl, rfl⟩ ?_
    rintro _ ⟨k, hk, hI, rfl⟩
    by_cases hk2 : k < a.length
    · have hk3 : k < b.length := by omega
      (repeat' (first | simp (maxSteps := 5000000) (implicitDefEqProofs := false) only [ruA, ruB, aEv, aBin, bin2, ASt.get, aget, ASt.put, ↓reduceIte, Nat.reduceLT, Nat.reduceEqDiff, eq_self, hk2] | (with_reducible refine aIf_split (fun _ => ?_) (fun _ => ?_)) | (with_reducible refine aSel_split (fun _ => ?_) (fun _ => ?_)) | (with_reducible refine aGd_split (fun _ => ?_) (fun _ => ?_))))
      refine aDraw_held [] [0, 1, 2, 3, 4, 5, 6, 7, 8] .done (by kernel_rfl) (by simp []) ?_
      (repeat' (first | simp (maxSteps := 5000000) (implicitDefEqProofs := false) only [ruA, ruB, aEv, aTake, aLoad, aIndex, aBin, bin2, ASt.get, aget, ASt.put, aResL, aOne, ↓reduceIte, reduceCtorEq, Nat.reduceLT, Nat.reduceEqDiff, eq_self, aTakes, aFrom, tyE_34, tyA_2, tyS_2, row_at, hk2, hk3] | (with_reducible refine aIf_split (fun _ => ?_) (fun _ => ?_)) | (with_reducible refine aSel_split (fun _ => ?_) (fun _ => ?_)) | (with_reducible refine aGd_split (fun _ => ?_) (fun _ => ?_))))
      · rename_i h
        symm
        simp only [decide_eq_false_iff_not]
        intro he
        subst he
        simp at h
      · rename_i h
        refine roundI (weak_cut1 (by (first | ((simp only [envIn, tabIn, envLt, tabLt, AV.lt, ruW, ASt.get, aget, ↓reduceIte, reduceCtorEq, Nat.reduceLT, Nat.reduceEqDiff, eq_self]) <;> (repeat' apply And.intro) <;> first | (rw [wrapK (by omega)]; done) | (simp; done) | omega) | fail))) ⟨k + 1, by omega, ?_, rfl⟩ (by simp only [slotN, ruW, ASt.get, aget, ↓reduceIte, Nat.reduceLT, Nat.reduceEqDiff, eq_self]; omega)
        rw [List.take_add_one, List.take_add_one, hI, List.getElem?_eq_getElem hk2, List.getElem?_eq_getElem hk3]
        simp at h
        rw [h]
    · obtain rfl : k = a.length := by omega
      (repeat' (first | simp (maxSteps := 5000000) (implicitDefEqProofs := false) only [ruA, ruB, aEv, aBin, bin2, ASt.get, aget, ASt.put, aResL, aOne, ↓reduceIte, Nat.reduceLT, Nat.reduceEqDiff, eq_self, hk2] | (with_reducible refine aIf_split (fun _ => ?_) (fun _ => ?_)) | (with_reducible refine aSel_split (fun _ => ?_) (fun _ => ?_)) | (with_reducible refine aGd_split (fun _ => ?_) (fun _ => ?_))))
      symm
      simp only [decide_eq_true_eq]
      exact eq_of_take hl hI (Nat.le_refl _)
  · have hl' : (((a.length : Nat) : Int) != ((b.length : Nat) : Int)) = true := by simp; omega
    (repeat' (first | simp (maxSteps := 5000000) (implicitDefEqProofs := false) only [ruA, ruB, aEv, aLen, aBin, bin2, ASt.get, aget, ASt.put, envOf, aResL, aOne, ↓reduceIte, reduceCtorEq, Nat.reduceLT, Nat.reduceEqDiff, eq_self, ne_eq, tyE_34, hl'] | (with_reducible refine aIf_split (fun _ => ?_) (fun _ => ?_)) | (with_reducible refine aSel_split (fun _ => ?_) (fun _ => ?_)) | (with_reducible refine aGd_split (fun _ => ?_) (fun _ => ?_))))
    symm
    simp only [decide_eq_false_iff_not]
    intro he
    exact hl (by rw [he])
set_option maxRecDepth 100000 in
theorem equalI_A (a b : List Int) (ha : a.length ≤ 1000000) : ADet Tryz.prog 29 [sI a, sI b] (val (.bool (decide (a = b)))) := by
  refine adet_of_code mixedT Tryz.func29 rfl (by decide) Tryz.ntmps29 Tryz.results29 rfl (val_ok _) ?_
  by_cases hl : a.length = b.length
  · have hl' : (((a.length : Nat) : Int) != ((b.length : Nat) : Int)) = false := by simp [hl]
    (repeat' (first | simp (maxSteps := 5000000) (implicitDefEqProofs := false) only [ruA, ruB, aEv, aLen, aBin, bin2, ASt.get, aget, ASt.put, envOf, ↓reduceIte, reduceCtorEq, Nat.reduceLT, Nat.reduceEqDiff, eq_self, ne_eq, tyE_23, hl'] | (with_reducible refine aIf_split (fun _ => ?_) (fun _ => ?_)) | (with_reducible refine aSel_split (fun _ => ?_) (fun _ => ?_)) | (with_reducible refine aGd_split (fun _ => ?_) (fun _ => ?_))))
    refine aLoop_of (fun st => ∃ k : Nat, k ≤ a.length ∧ a.take k = b.take k ∧ st = ⟨26, [(0, sI a), (1, sI b), (12, eI (a.length : Int)), (13, eI (k : Int))], [], 0⟩) (fun st => a.length - slotN st 13) ⟨_, (weak_cut1 (by (first | ((simp only [envIn, tabIn, envLt, tabLt, AV.lt, ruW, ASt.get, aget, ↓reduceIte, reduceCtorEq, Nat.reduceLT, Nat.reduceEqDiff, eq_self]) <;> (repeat' apply And.intro) <;> first | (rw [wrapK (by omega)]; done) | (simp; done) | omega) | fail))), 0, Nat.zero_le _, rfl, rfl⟩ ?_
    rintro _ ⟨k, hk, hI, rfl⟩
    by_cases hk2 : k < a.length
    · have hk3 : k < b.length := by omega
      (repeat' (first | simp (maxSteps := 5000000) (implicitDefEqProofs := false) only [ruA, ruB, aEv, aBin, bin2, ASt.get, aget, ASt.put, ↓reduceIte, Nat.reduceLT, Nat.reduceEqDiff, eq_self, hk2] | (with_reducible refine aIf_split (fun _ => ?_) (fun _ => ?_)) | (with_reducible refine aSel_split (fun _ => ?_) (fun _ => ?_)) | (with_reducible refine aGd_split (fun _ => ?_) (fun _ => ?_))))
      refine aDraw_held [] [0, 1, 2, 3, 4, 5, 6, 7, 8] .done (by kernel_rfl) (by simp []) ?_
      (repeat' (first | simp (maxSteps := 5000000) (implicitDefEqProofs := false) only [ruA, ruB, aEv, aTake, aLoad, aIndex, aBin, bin2, ASt.get, aget, ASt.put, aResL, aOne, ↓reduceIte, reduceCtorEq, Nat.reduceLT, Nat.reduceEqDiff, eq_self, aTakes, aFrom, tyE_23, tyA_3, tyS_3, row_at, hk2, hk3] | (with_reducible refine aIf_split (fun _ => ?_) (fun _ => ?_)) | (with_reducible refine aSel_split (fun _ => ?_) (fun _ => ?_)) | (with_reducible refine aGd_split (fun _ => ?_) (fun _ => ?_))))
      · rename_i h
        symm
        simp only [decide_eq_false_iff_not]
        intro he
        subst he
        simp at h
      · rename_i h
        refine roundI (weak_cut1 (by (first | ((simp only [envIn, tabIn, envLt, tabLt, AV.lt, ruW, ASt.get, aget, ↓reduceIte, reduceCtorEq, Nat.reduceLT, Nat.reduceEqDiff, eq_self]) <;> (repeat' apply And.intro) <;> first | (rw [wrapK (by omega)]; done) | (simp; done) | omega) | fail))) ⟨k + 1, by omega, ?_, rfl⟩ (by simp only [slotN, ruW, ASt.get, aget, ↓reduceIte, Nat.reduceLT, Nat.reduceEqDiff, eq_self]; omega)
        rw [List.take_add_one, List.take_add_one, hI, List.getElem?_eq_getElem hk2, List.getElem?_eq_getElem hk3]
        simp at h
        rw [h]
    · obtain rfl : k = a.length := by omega
      (repeat' (first | simp (maxSteps := 5000000) (implicitDefEqProofs := false) only [ruA, ruB, aEv, aBin, bin2, ASt.get, aget, ASt.put, aResL, aOne, ↓reduceIte, Nat.reduceLT, Nat.reduceEqDiff, eq_self, hk2] | (with_reducible refine aIf_split (fun _ => ?_) (fun _ => ?_)) | (with_reducible refine aSel_split (fun _ => ?_) (fun _ => ?_)) | (with_reducible refine aGd_split (fun _ => ?_) (fun _ => ?_))))
      symm
      simp only [decide_eq_true_eq]
      exact eq_of_take hl hI (Nat.le_refl _)
  · have hl' : (((a.length : Nat) : Int) != ((b.length : Nat) : Int)) = true := by simp; omega
    (repeat' (first | simp (maxSteps := 5000000) (implicitDefEqProofs := false) only [ruA, ruB, aEv, aLen, aBin, bin2, ASt.get, aget, ASt.put, envOf, aResL, aOne, ↓reduceIte, reduceCtorEq, Nat.reduceLT, Nat.reduceEqDiff, eq_self, ne_eq, tyE_23, hl'] | (with_reducible refine aIf_split (fun _ => ?_) (fun _ => ?_)) | (with_reducible refine aSel_split (fun _ => ?_) (fun _ => ?_)) | (with_reducible refine aGd_split (fun _ => ?_) (fun _ => ?_))))
    symm
    simp only [decide_eq_false_iff_not]
    intro he
    exact hl (by rw [he])
set_option maxRecDepth 100000 in
theorem sameP_A (a b : St) (h1 : a.vals.length ≤ 1000000) (h2 : a.did.length ≤ 1000000) (h3 : a.cnt.length ≤ 1000000) : ADet Tryz.prog 18 [.agg (eSt a), .agg (eSt b)] (val (.bool (sameB a b))) := by
  refine adet_of_code mixedT Tryz.func18 rfl (by decide) Tryz.ntmps18 Tryz.results18 rfl (val_ok _) ?_
  unfold sameB
  (repeat' (first | simp (maxSteps := 5000000) (implicitDefEqProofs := false) only [ruA, ruB, aEv, aTake, aLoad, aField, aBin, bin2, ASt.get, aget, ASt.put, aBox, aCells, oneC, oneCL, Value.oneCell', envOf, aResL, aOne, ↓reduceIte, reduceCtorEq, Nat.reduceLT, Nat.reduceEqDiff, Nat.reduceAdd, Nat.reduceLeDiff, eq_self, tyF_51_1, tyA_3, tyS_3, tyF_51_2, tyF_51_0, tyA_34, tyS_34, tyF_51_3, tyA_23, tyS_23, tyF_51_4] | (with_reducible refine aIf_split (fun _ => ?_) (fun _ => ?_)) | (with_reducible refine aSel_split (fun _ => ?_) (fun _ => ?_)) | (with_reducible refine aGd_split (fun _ => ?_) (fun _ => ?_)) | (with_reducible refine aDraw_quiet (by kernel_rfl) ?_) | ((with_reducible apply callV (g := 30)); exact (equal64_A _ _ h1)) | ((with_reducible apply callD (g := 30)); exact (equal64_A _ _ h1)) | ((with_reducible apply callV (g := 29)); exact (equalI_A _ _ h2)) | ((with_reducible apply callD (g := 29)); exact (equalI_A _ _ h2)) | ((with_reducible apply callV (g := 29)); exact (equalI_A _ _ h3)) | ((with_reducible apply callD (g := 29)); exact (equalI_A _ _ h3))))
  all_goals grind
end
section
open Go.RowKit
def andI (a b : Int) : Int := bits .and .i64 a b
/-- all attributes of some classes -/
def atts (l : List Cls) : Int := l.foldl (fun a x => orI a x.attrs) 0
/-- how many of some classes have a constant -/
def nextN (l : List Cls) : Nat := l.countP fun x => !(x.const == -1)
theorem atts_snoc (l : List Cls) (x : Cls) : atts (l ++ [x]) = orI (atts l) x.attrs := by simp [atts]
theorem nextN_snoc (l : List Cls) (x : Cls) : nextN (l ++ [x]) = nextN l + (if x.const = -1 then 0 else 1) := by
  unfold nextN
  rw [List.countP_append]
  by_cases h : x.const = -1 <;> simp [h]
theorem nextN_le (l : List Cls) : nextN l ≤ l.length := List.countP_le_length
/-- a class may lie behind others -/
def ClsOk (l : List Cls) (x : Cls) : Prop := 0 ≤ x.attrs ∧ andI x.attrs (atts l) = 0 ∧ ¬ (x.attrs = 0 ∧ x.const = -1) ∧ (x.const = -1 ∨ x.const = (nextN l : Int))
def FormedP (l : List Cls) (n k : Int) : Prop := (∀ i (h : i < l.length), ClsOk (l.take i) l[i]) ∧ atts l = firstI n ∧ (nextN l : Int) = k
set_option maxRecDepth 100000 in
set_option maxHeartbeats 8000000 in
theorem formed_A (z : Zn) (n k : Int) (h1 : z.cls.length ≤ 1000000) : ARel Tryz.prog 37 [.agg (eZn z), eI n, eI k] fun R => ∃ b, R = val (.bool b) ∧ (b = true ↔ FormedP z.cls n k) := by
  refine arel_of_code mixedT Tryz.func37 rfl (by decide) Tryz.ntmps37 Tryz.results37 rfl ?_
  (repeat' (first | simp (maxSteps := 5000000) (implicitDefEqProofs := false) only [ruA, ruB, aEv, aTake, aLoad, aField, aLen, ASt.get, aget, ASt.put, aBox, aCells, oneC, oneCL, envOf, ↓reduceIte, reduceCtorEq, Nat.reduceLT, Nat.reduceEqDiff, Nat.reduceAdd, Nat.reduceLeDiff, eq_self, ne_eq, tyF_25_0, tyA_22, tyS_22, tyE_22] | (with_reducible refine aIf_split (fun _ => ?_) (fun _ => ?_)) | (with_reducible refine aSel_split (fun _ => ?_) (fun _ => ?_)) | (with_reducible refine aGd_split (fun _ => ?_) (fun _ => ?_))))
  refine aLoop_of (fun st => ∃ (i : Nat) (a x : Int), i ≤ z.cls.length ∧ a = atts (z.cls.take i) ∧ x = (nextN (z.cls.take i) : Int) ∧ (∀ j (h : j < z.cls.length), j < i → ClsOk (z.cls.take j) z.cls[j]) ∧ st = ⟨61, [(1, eI n), (2, eI k), (7, eI a), (8, eI x), (12, .sl 2 (z.cls.map eCls)), (13, eI (z.cls.length : Int)), (14, eI (i : Int))], [], 0⟩) (fun st => z.cls.length - slotN st 14) ⟨_, (weak_cut1 (by (first | ((simp only [envIn, tabIn, envLt, tabLt, AV.lt, ruW, ASt.get, aget, ↓reduceIte, Nat.reduceLT, Nat.reduceEqDiff, eq_self]) <;> (repeat' apply And.intro) <;> first | (rw [wrapK (by omega)]; done) | (simp; done) | omega) | fail))), 0, 0, 0, Nat.zero_le _, rfl, rfl, fun j _ h => by omega, rfl⟩ ?_
  rintro _ ⟨i, a, x, hi, ha, hx, hok, rfl⟩
  by_cases hlt : i < z.cls.length
  · have htk : z.cls.take (i + 1) = z.cls.take i ++ [z.cls[i]] := List.take_succ_eq_append_getElem hlt
    have hno : ¬ ClsOk (z.cls.take i) z.cls[i] → ¬ FormedP z.cls n k := fun h h2 => h (h2.1 i hlt)
    have hnl : nextN (z.cls.take i) ≤ 1000000 := by have := nextN_le (z.cls.take i); rw [List.length_take] at this; omega
    have hok2 : ClsOk (z.cls.take i) z.cls[i] → ∀ j (h : j < z.cls.length), j < i + 1 → ClsOk (z.cls.take j) z.cls[j] := fun h j hj hji => by
      rcases Nat.lt_or_ge j i with h2 | h2
      · exact hok j hj h2
      · obtain rfl : j = i := by omega
        exact h
    have hat : atts (z.cls.take (i + 1)) = orI a z.cls[i].attrs := by rw [htk, atts_snoc, ha]
    have hnx : (nextN (z.cls.take (i + 1)) : Int) = x + (if z.cls[i].const = -1 then 0 else 1) := by rw [htk, nextN_snoc, hx]; split <;> simp
    unfold ClsOk at hno hok2
    rw [← ha, ← hx] at hno hok2
    clear hok htk
    generalize hc : z.cls[i] = c at *
    have c1 : ∀ b, decide (c.attrs < 0) = b → True := fun _ _ => trivial
    by_cases g1 : c.attrs < 0
    · have d1 : decide (c.attrs < 0) = true := by simpa using g1
      (repeat' (first | simp (maxSteps := 5000000) (implicitDefEqProofs := false) only [ruA, ruB, aEv, aTake, aLoad, aField, aIndex, aBin, bin2, ASt.get, aget, ASt.put, aStore, aBox, aCells, oneC, oneCL, Value.cells, Value.oneCell', aResL, aOne, ↓reduceIte, reduceCtorEq, Nat.reduceLT, Nat.reduceEqDiff, Nat.reduceAdd, Nat.reduceLeDiff, eq_self, tyE_22, tyA_46, tyS_46, tyZ_46, tyF_46_0, tyA_3, tyS_3, row_at, hlt, hc, d1] | (with_reducible refine aIf_split (fun _ => ?_) (fun _ => ?_)) | (with_reducible refine aSel_split (fun _ => ?_) (fun _ => ?_)) | (with_reducible refine aGd_split (fun _ => ?_) (fun _ => ?_)) | (with_reducible refine aDraw_quiet (by kernel_rfl) ?_)))
      all_goals exact retV ⟨false, rfl, by simp; exact hno (by omega)⟩
    have d1 : decide (c.attrs < 0) = false := by simpa using g1
    by_cases g2 : andI c.attrs a = 0
    · have d2 : (bits .and .i64 c.attrs a != 0) = false := by simpa [andI] using g2
      by_cases g3 : c.attrs = 0 ∧ c.const = -1
      · have d3 : (c.attrs == 0) = true := by simpa using g3.1
        have d4 : (c.const == -1) = true := by simpa using g3.2
        (repeat' (first | simp (maxSteps := 5000000) (implicitDefEqProofs := false) only [ruA, ruB, aEv, aTake, aLoad, aField, aIndex, aBin, bin2, ASt.get, aget, ASt.put, aStore, aBox, aCells, oneC, oneCL, Value.cells, Value.oneCell', aResL, aOne, ↓reduceIte, reduceCtorEq, Nat.reduceLT, Nat.reduceEqDiff, Nat.reduceAdd, Nat.reduceLeDiff, eq_self, tyE_22, tyA_46, tyS_46, tyZ_46, tyF_46_0, tyA_3, tyS_3, tyF_46_1, row_at, hlt, hc, d1, d2, d3, d4] | (with_reducible refine aIf_split (fun _ => ?_) (fun _ => ?_)) | (with_reducible refine aSel_split (fun _ => ?_) (fun _ => ?_)) | (with_reducible refine aGd_split (fun _ => ?_) (fun _ => ?_)) | (with_reducible refine aDraw_quiet (by kernel_rfl) ?_)))
        all_goals exact retV ⟨false, rfl, by simp; exact hno (fun h => h.2.2.1 g3)⟩
      · have e0 : IntKind.i64.wrap ((i : Int) + 1) = ((i + 1 : Nat) : Int) := wrapK (by omega)
        by_cases g4 : c.const = -1
        · have d4 : (c.const == -1) = true := by simpa using g4
          have d3 : (c.attrs == 0) = false := by simp; exact fun h => g3 ⟨h, g4⟩
          rw [if_pos g4, Int.add_zero] at hnx
          (repeat' (first | simp (maxSteps := 5000000) (implicitDefEqProofs := false) only [ruA, ruB, aEv, aTake, aLoad, aField, aIndex, aBin, bin2, ASt.get, aget, ASt.put, aStore, aBox, aCells, oneC, oneCL, Value.cells, Value.oneCell', ↓reduceIte, reduceCtorEq, Nat.reduceLT, Nat.reduceEqDiff, Nat.reduceAdd, Nat.reduceLeDiff, eq_self, tyE_22, tyA_46, tyS_46, tyZ_46, tyF_46_0, tyA_3, tyS_3, tyF_46_1, row_at, hlt, hc, d1, d2, d3, d4] | (with_reducible refine aIf_split (fun _ => ?_) (fun _ => ?_)) | (with_reducible refine aSel_split (fun _ => ?_) (fun _ => ?_)) | (with_reducible refine aGd_split (fun _ => ?_) (fun _ => ?_)) | (with_reducible refine aDraw_quiet (by kernel_rfl) ?_)))
          all_goals exact roundI (weak_cut1 (by (first | ((simp only [envIn, tabIn, envLt, tabLt, AV.lt, ruW, ASt.get, aget, ↓reduceIte, Nat.reduceLT, Nat.reduceEqDiff, eq_self, e0, orI]) <;> (repeat' apply And.intro) <;> first | (rw [wrapK (by omega)]; done) | (simp; done) | omega) | fail))) ⟨i + 1, orI a c.attrs, x, by omega, hat.symm, hnx.symm, hok2 ⟨by omega, g2, g3, .inl g4⟩, rfl⟩ (by simp only [slotN, ruW, ASt.get, aget, ↓reduceIte, Nat.reduceLT, Nat.reduceEqDiff, eq_self]; omega)
        · have d4 : (c.const == -1) = false := by simpa using g4
          rw [if_neg g4] at hnx
          by_cases g5 : c.const = x
          · have d5 : (c.const != x) = false := by simpa using g5
            have ex : IntKind.i64.wrap (x + 1) = x + 1 := wrap_in (by omega) (by omega)
            (repeat' (first | simp (maxSteps := 5000000) (implicitDefEqProofs := false) only [ruA, ruB, aEv, aTake, aLoad, aField, aIndex, aBin, bin2, ASt.get, aget, ASt.put, aStore, aBox, aCells, oneC, oneCL, Value.cells, Value.oneCell', ↓reduceIte, reduceCtorEq, Nat.reduceLT, Nat.reduceEqDiff, Nat.reduceAdd, Nat.reduceLeDiff, eq_self, tyE_22, tyA_46, tyS_46, tyZ_46, tyF_46_0, tyA_3, tyS_3, tyF_46_1, row_at, hlt, hc, d1, d2, d4, d5, ex] | (with_reducible refine aIf_split (fun _ => ?_) (fun _ => ?_)) | (with_reducible refine aSel_split (fun _ => ?_) (fun _ => ?_)) | (with_reducible refine aGd_split (fun _ => ?_) (fun _ => ?_)) | (with_reducible refine aDraw_quiet (by kernel_rfl) ?_)))
            all_goals exact roundI (weak_cut1 (by (first | ((simp only [envIn, tabIn, envLt, tabLt, AV.lt, ruW, ASt.get, aget, ↓reduceIte, Nat.reduceLT, Nat.reduceEqDiff, eq_self, e0, orI]) <;> (repeat' apply And.intro) <;> first | (rw [wrapK (by omega)]; done) | (simp; done) | omega) | fail))) ⟨i + 1, orI a c.attrs, x + 1, by omega, hat.symm, hnx.symm, hok2 ⟨by omega, g2, g3, .inr g5⟩, rfl⟩ (by simp only [slotN, ruW, ASt.get, aget, ↓reduceIte, Nat.reduceLT, Nat.reduceEqDiff, eq_self]; omega)
          · have d5 : (c.const != x) = true := by simpa using g5
            (repeat' (first | simp (maxSteps := 5000000) (implicitDefEqProofs := false) only [ruA, ruB, aEv, aTake, aLoad, aField, aIndex, aBin, bin2, ASt.get, aget, ASt.put, aStore, aBox, aCells, oneC, oneCL, Value.cells, Value.oneCell', aResL, aOne, ↓reduceIte, reduceCtorEq, Nat.reduceLT, Nat.reduceEqDiff, Nat.reduceAdd, Nat.reduceLeDiff, eq_self, tyE_22, tyA_46, tyS_46, tyZ_46, tyF_46_0, tyA_3, tyS_3, tyF_46_1, row_at, hlt, hc, d1, d2, d4, d5] | (with_reducible refine aIf_split (fun _ => ?_) (fun _ => ?_)) | (with_reducible refine aSel_split (fun _ => ?_) (fun _ => ?_)) | (with_reducible refine aGd_split (fun _ => ?_) (fun _ => ?_)) | (with_reducible refine aDraw_quiet (by kernel_rfl) ?_)))
            all_goals exact retV ⟨false, rfl, by simp; exact hno (fun h => by rcases h.2.2.2 with h | h <;> contradiction)⟩
    · have d2 : (bits .and .i64 c.attrs a != 0) = true := by simpa [andI] using g2
      (repeat' (first | simp (maxSteps := 5000000) (implicitDefEqProofs := false) only [ruA, ruB, aEv, aTake, aLoad, aField, aIndex, aBin, bin2, ASt.get, aget, ASt.put, aStore, aBox, aCells, oneC, oneCL, Value.cells, Value.oneCell', aResL, aOne, ↓reduceIte, reduceCtorEq, Nat.reduceLT, Nat.reduceEqDiff, Nat.reduceAdd, Nat.reduceLeDiff, eq_self, tyE_22, tyA_46, tyS_46, tyZ_46, tyF_46_0, tyA_3, tyS_3, row_at, hlt, hc, d1, d2] | (with_reducible refine aIf_split (fun _ => ?_) (fun _ => ?_)) | (with_reducible refine aSel_split (fun _ => ?_) (fun _ => ?_)) | (with_reducible refine aGd_split (fun _ => ?_) (fun _ => ?_)) | (with_reducible refine aDraw_quiet (by kernel_rfl) ?_)))
      all_goals exact retV ⟨false, rfl, by simp; exact hno (fun h => g2 h.2.1)⟩
  · obtain rfl : i = z.cls.length := by omega
    rw [List.take_length] at ha hx
    have hF := first_A n
    (repeat' (first | simp (maxSteps := 5000000) (implicitDefEqProofs := false) only [ruA, ruB, aEv, aBin, bin2, ASt.get, aget, ASt.put, aResL, aOne, ↓reduceIte, Nat.reduceLT, Nat.reduceEqDiff, eq_self, hlt] | (with_reducible refine aIf_split (fun _ => ?_) (fun _ => ?_)) | (with_reducible refine aSel_split (fun _ => ?_) (fun _ => ?_)) | (with_reducible refine aGd_split (fun _ => ?_) (fun _ => ?_)) | (with_reducible refine aDraw_quiet (by kernel_rfl) ?_) | ((with_reducible apply callV); exact (hF)) | ((with_reducible apply callD); exact (hF))))
    all_goals refine retV ⟨_, rfl, ?_⟩
    all_goals unfold FormedP
    all_goals rw [← ha, ← hx]
    all_goals constructor
    all_goals simp_all
end
section
open Go.RowKit
theorem and_nn (a b : Nat) (ha : a < 2 ^ 62) (hb : b < 2 ^ 62) : bits .and .i64 (a : Int) (b : Int) = ((a &&& b : Nat) : Int) := by
  show IntKind.i64.wrap ((BitVec.ofInt 64 (a : Int) &&& BitVec.ofInt 64 (b : Int)).toNat : Int) = _
  rw [BitVec.toNat_and, ofInt_nat64 a (by omega), ofInt_nat64 b (by omega)]
  exact wrap_nat _ (Nat.lt_of_le_of_lt Nat.and_le_left (by omega))
theorem attrs_bit (vals : List Int) (m : Int) (hv : vals.length ≤ 31) {a : Nat} (ha : attrsN vals m vals.length = (a : Int)) (hlt : a < 2 ^ 31) (q : Nat) : a.testBit q = true ↔ ∃ h : q < vals.length, vals[q] = m := by
  by_cases hq : q < 31
  · have h1 := attrs_has vals m vals.length hv (q : Int)
    rw [ha, hasB_low _ _ hq, low_of a hlt] at h1
    rw [h1]
    constructor
    · rintro ⟨q', e, h2, h3⟩
      obtain rfl : q = q' := by omega
      rw [List.getD_eq_getElem?_getD, List.getElem?_eq_getElem h2] at h3
      exact ⟨h2, h3⟩
    · rintro ⟨h2, h3⟩
      exact ⟨q, rfl, h2, by rw [List.getD_eq_getElem?_getD, List.getElem?_eq_getElem h2]; exact h3⟩
  · have : a.testBit q = false := Nat.testBit_lt_two_pow (Nat.lt_of_lt_of_le hlt (Nat.pow_le_pow_right (by decide) (by omega)))
    rw [this]
    constructor
    · intro h
      cases h
    · rintro ⟨h, _⟩
      omega
theorem atts_bits (vals c : List Int) (hv : vals.length ≤ 31) : ∀ L : List Int, ∃ A : Nat, atts (L.map (clsOf vals c)) = (A : Int) ∧ A < 2 ^ 31 ∧ ∀ q, A.testBit q = true ↔ ∃ h : q < vals.length, vals[q] ∈ L := fun L => by
  induction hk : L.length using Nat.strongRecOn generalizing L with
  | _ k ih =>
    rcases List.eq_nil_or_concat L with rfl | ⟨l, m, rfl⟩
    · exact ⟨0, rfl, by decide, fun q => by simp⟩
    · obtain ⟨A, h1, h2, h3⟩ := ih l.length (by simp at hk; omega) l rfl
      obtain ⟨a, ha, hlt⟩ := attrs_nat vals m vals.length hv
      have hb := attrs_bit vals m hv ha hlt
      have e : orI (A : Int) (a : Int) = ((A ||| a : Nat) : Int) := or_nat A a (by omega) (by omega)
      refine ⟨A ||| a, ?_, Nat.or_lt_two_pow h2 hlt, fun q => ?_⟩
      · rw [List.concat_eq_append, List.map_append, List.map_singleton, atts_snoc, h1]
        show orI _ (attrsN vals m vals.length) = _
        rw [ha, e]
      · rw [Nat.testBit_or, Bool.or_eq_true, h3, hb]
        constructor
        · rintro (⟨h, h4⟩ | ⟨h, h4⟩)
          · exact ⟨h, by simp [h4]⟩
          · exact ⟨h, by simp [h4]⟩
        · rintro ⟨h, h4⟩
          simp at h4
          rcases h4 with h4 | h4
          · exact .inl ⟨h, h4⟩
          · exact .inr ⟨h, h4⟩
theorem const_in {sc : List Int} (hup : Up sc) (m : Int) : (m ∉ sc ∧ constN sc m sc.length = -1) ∨ (∃ i : Nat, ∃ h : i < sc.length, sc[i] = m ∧ constN sc m sc.length = (i : Int)) := by
  rcases const_spec sc m sc.length with ⟨h1, h2⟩ | ⟨q, h1, h2, h3⟩
  · refine .inl ⟨fun hm => ?_, h1⟩
    obtain ⟨i, hi, rfl⟩ := List.getElem_of_mem hm
    exact h2 i hi (by rw [List.getD_eq_getElem?_getD, List.getElem?_eq_getElem hi]; rfl)
  · refine .inr ⟨q, h2, ?_, h1⟩
    rw [List.getD_eq_getElem?_getD, List.getElem?_eq_getElem h2] at h3
    exact h3
/-- numbers of a rising list that lie in another rising list, and are less than one: as many as are there less -/
theorem count_less {L sc : List Int} (hL : Up L) (hsc : Up sc) (hin : ∀ x ∈ sc, x ∈ L) {i : Nat} (hi : i < L.length) : ((L.take i).filter fun x => decide (x ∈ sc)) = sc.filter fun x => decide (x < L[i]) := by
  refine up_ext _ _ (List.Pairwise.filter _ (hL.sublist (List.take_sublist _ _))) (List.Pairwise.filter _ hsc) fun z => ?_
  simp only [List.mem_filter, decide_eq_true_eq]
  constructor
  · rintro ⟨h1, h2⟩
    obtain ⟨j, hj, rfl⟩ := List.getElem_of_mem h1
    rw [List.length_take] at hj
    rw [List.getElem_take] at h2 ⊢
    exact ⟨h2, List.pairwise_iff_getElem.1 hL j i (by omega) hi (by omega)⟩
  · rintro ⟨h1, h2⟩
    refine ⟨?_, h1⟩
    obtain ⟨j, hj, rfl⟩ := List.getElem_of_mem (hin z h1)
    rcases Nat.lt_or_ge j i with h | h
    · exact List.mem_iff_getElem.2 ⟨j, by rw [List.length_take]; omega, by rw [List.getElem_take]⟩
    · rcases Nat.lt_or_ge i j with h3 | h3
      · have := List.pairwise_iff_getElem.1 hL i j hi hj h3
        omega
      · obtain rfl : i = j := by omega
        omega
theorem less_idx {sc : List Int} (hsc : Up sc) {i : Nat} (hi : i < sc.length) : (sc.filter fun x => decide (x < sc[i])).length = i := by
  have : (sc.filter fun x => decide (x < sc[i])) = sc.take i := by
    refine up_ext _ _ (List.Pairwise.filter _ hsc) (hsc.sublist (List.take_sublist _ _)) fun z => ?_
    simp only [List.mem_filter, decide_eq_true_eq]
    constructor
    · rintro ⟨h1, h2⟩
      obtain ⟨j, hj, rfl⟩ := List.getElem_of_mem h1
      rcases Nat.lt_or_ge j i with h | h
      · exact List.mem_iff_getElem.2 ⟨j, by rw [List.length_take]; omega, by rw [List.getElem_take]⟩
      · rcases Nat.lt_or_ge i j with h3 | h3
        · have := List.pairwise_iff_getElem.1 hsc i j hi hj h3
          omega
        · obtain rfl : i = j := by omega
          omega
    · intro h1
      obtain ⟨j, hj, rfl⟩ := List.getElem_of_mem h1
      rw [List.length_take] at hj
      rw [List.getElem_take]
      exact ⟨List.getElem_mem _, List.pairwise_iff_getElem.1 hsc j i (by omega) hi (by omega)⟩
  rw [this, List.length_take]
  omega
theorem nextN_map (vals c : List Int) (L : List Int) : nextN (L.map (clsOf vals c)) = (L.filter fun x => decide (x ∈ sortR c)).length := by
  have hup := (sortR_up c).1
  unfold nextN
  rw [List.countP_map, List.countP_eq_length_filter]
  congr 1
  refine List.filter_congr fun x _ => ?_
  show (!((clsOf vals c x).const == -1)) = _
  unfold clsOf
  rcases const_in hup x with ⟨h1, h2⟩ | ⟨i, hi, h1, h2⟩
  · simp [h2, h1]
  · have : x ∈ sortR c := h1 ▸ List.getElem_mem hi
    rw [h2, Bool.eq_iff_iff]
    simp [this]
theorem formed_zone (vals c : List Int) (hv : vals.length ≤ 31) : FormedP (clsL vals c) (vals.length : Int) ((sortR c).length : Int) := by
  have hL := (sortR_up (vals ++ c)).1
  have hm := (sortR_up (vals ++ c)).2
  have hsc := (sortR_up c).1
  have hscm := (sortR_up c).2
  have hin : ∀ x ∈ sortR c, x ∈ numsL vals c := fun x hx => (hm x).2 (List.mem_append_right _ ((hscm x).1 hx))
  have hvin : ∀ x ∈ vals, x ∈ numsL vals c := fun x hx => (hm x).2 (List.mem_append_left _ hx)
  unfold clsL
  have hmem : ∀ x ∈ numsL vals c, x ∈ vals ∨ x ∈ sortR c := fun x hx => (List.mem_append.1 ((hm x).1 hx)).imp id (hscm x).2
  have hL : Up (numsL vals c) := hL
  clear hm
  generalize numsL vals c = L at *
  refine ⟨fun i hi => ?_, ?_, ?_⟩
  · rw [List.length_map] at hi
    rw [← List.map_take, List.getElem_map]
    obtain ⟨A, h1, h2, h3⟩ := atts_bits vals c hv (L.take i)
    obtain ⟨a, ha, hlt⟩ := attrs_nat vals L[i] vals.length hv
    have hb := attrs_bit vals L[i] hv ha hlt
    have hca : (clsOf vals c L[i]).attrs = (a : Int) := ha
    have hcc : (clsOf vals c L[i]).const = constN (sortR c) L[i] (sortR c).length := rfl
    refine ⟨by rw [hca]; omega, ?_, ?_, ?_⟩
    · rw [hca, h1]
      show bits .and .i64 (a : Int) (A : Int) = 0
      rw [and_nn a A (by omega) (by omega)]
      have : a &&& A = 0 := by
        apply Nat.eq_of_testBit_eq
        intro q
        rw [Nat.testBit_and, Nat.zero_testBit, Bool.and_eq_false_iff]
        rcases hq : a.testBit q with _ | _
        · exact .inl rfl
        · refine .inr (Bool.eq_false_iff.2 fun h4 => ?_)
          obtain ⟨h5, h6⟩ := (hb q).1 hq
          obtain ⟨_, h7⟩ := (h3 q).1 h4
          rw [h6] at h7
          obtain ⟨j, hj, h8⟩ := List.getElem_of_mem h7
          rw [List.length_take] at hj
          rw [List.getElem_take] at h8
          have := List.pairwise_iff_getElem.1 hL j i (by omega) hi (by omega)
          omega
      rw [this]
      rfl
    · rintro ⟨h4, h5⟩
      rw [hca] at h4
      rw [hcc] at h5
      obtain rfl : a = 0 := by omega
      rcases hmem L[i] (List.getElem_mem hi) with h6 | h6
      · obtain ⟨q, hq, h7⟩ := List.getElem_of_mem h6
        have := (hb q).2 ⟨hq, h7⟩
        simp at this
      · rcases const_in hsc L[i] with ⟨h7, _⟩ | ⟨j, hj, h7, h8⟩
        · exact h7 h6
        · omega
    · rw [hcc, nextN_map]
      rcases const_in hsc L[i] with ⟨_, h7⟩ | ⟨j, hj, h7, h8⟩
      · exact .inl h7
      · refine .inr ?_
        rw [h8, count_less hL hsc hin hi, ← h7, less_idx hsc hj]
  · obtain ⟨A, h1, h2, h3⟩ := atts_bits vals c hv L
    rw [h1]
    unfold firstI
    have e1 : (max 0 (min (vals.length : Int) 31)).toNat = vals.length := by omega
    rw [e1]
    have hA : A = 2 ^ vals.length - 1 := by
      apply Nat.eq_of_testBit_eq
      intro q
      rw [Nat.testBit_two_pow_sub_one, Bool.eq_iff_iff, h3]
      simp only [decide_eq_true_eq]
      exact ⟨fun h => h.1, fun h => ⟨h, hvin _ (List.getElem_mem h)⟩⟩
    have h5 : 1 ≤ 2 ^ vals.length := Nat.one_le_two_pow
    have h6 : (2 : Int) ^ vals.length = ((2 ^ vals.length : Nat) : Int) := by simp
    rw [hA, h6]
    omega
  · rw [nextN_map]
    congr 1
    have : (L.filter fun x => decide (x ∈ sortR c)) = sortR c := by
      refine up_ext _ _ (List.Pairwise.filter _ hL) hsc fun z => ?_
      simp only [List.mem_filter, decide_eq_true_eq]
      exact ⟨fun h => h.2, fun h => ⟨hin z h, h⟩⟩
    rw [this]
end
section
open Go.RowKit
theorem adet_iff {P : Program} {f : FuncId} {args : List AV} {Q : Prop} (h : ARel P f args fun R => ∃ b, R = val (.bool b) ∧ (b = true ↔ Q)) : ∃ t : Bool, (t = true ↔ Q) ∧ ADet P f args (val (.bool t)) := by
  by_cases hQ : Q
  · exact ⟨true, by simp [hQ], h.mono fun R ⟨b, h1, h2⟩ => by rw [h1, h2.2 hQ]⟩
  · exact ⟨false, by simp [hQ], h.mono fun R ⟨b, h1, h2⟩ => by
      cases b with
      | true => exact absurd (h2.1 rfl) hQ
      | false => exact h1⟩
def GappedP (z : Zn) (cap : Int) : Prop := (z.gaps.length : Int) = max ((z.cls.length : Int) - 1) 0 ∧ ∀ i (h : i < z.gaps.length), 0 ≤ z.gaps[i] ∧ z.gaps[i] ≤ cap
set_option maxRecDepth 100000 in
set_option maxHeartbeats 8000000 in
theorem gapped_A (z : Zn) (cap : Int) (h1 : z.cls.length ≤ 1000000) (h2 : z.gaps.length ≤ 1000000) : ARel Tryz.prog 38 [.agg (eZn z), eI cap] fun R => ∃ b, R = val (.bool b) ∧ (b = true ↔ GappedP z cap) := by
  refine arel_of_code mixedT Tryz.func38 rfl (by decide) Tryz.ntmps38 Tryz.results38 rfl ?_
  have e1 : IntKind.i64.wrap ((z.cls.length : Int) - 1) = (z.cls.length : Int) - 1 := wrap_in (by omega) (by omega)
  by_cases hl : (z.gaps.length : Int) = max ((z.cls.length : Int) - 1) 0
  · have d1 : ((z.gaps.length : Int) != max ((z.cls.length : Int) - 1) 0) = false := by simp [hl]
    (repeat' (first | simp (maxSteps := 5000000) (implicitDefEqProofs := false) only [ruA, ruB, aEv, aTake, aLoad, aField, aLen, aBin, bin2, ASt.get, aget, ASt.put, aBox, aCells, oneC, oneCL, envOf, ↓reduceIte, reduceCtorEq, Nat.reduceLT, Nat.reduceEqDiff, Nat.reduceAdd, Nat.reduceLeDiff, eq_self, ne_eq, aMM, tyF_25_1, tyA_23, tyS_23, tyE_23, tyF_25_0, tyA_22, tyS_22, tyE_22, e1, d1] | (with_reducible refine aIf_split (fun _ => ?_) (fun _ => ?_)) | (with_reducible refine aSel_split (fun _ => ?_) (fun _ => ?_)) | (with_reducible refine aGd_split (fun _ => ?_) (fun _ => ?_)) | (with_reducible refine aDraw_quiet (by kernel_rfl) ?_)))
    refine aLoop_of (fun st => ∃ i : Nat, i ≤ z.gaps.length ∧ (∀ j (h : j < z.gaps.length), j < i → 0 ≤ z.gaps[j] ∧ z.gaps[j] ≤ cap) ∧ st = ⟨31, [(1, eI cap), (17, sI z.gaps), (18, eI (z.gaps.length : Int)), (19, eI (i : Int))], [], 0⟩) (fun st => z.gaps.length - slotN st 19) ⟨_, (weak_cut1 (by (first | ((simp only [envIn, tabIn, envLt, tabLt, AV.lt, ruW, ASt.get, aget, ↓reduceIte, Nat.reduceLT, Nat.reduceEqDiff, eq_self]) <;> (repeat' apply And.intro) <;> first | (rw [wrapK (by omega)]; done) | (simp; done) | omega) | fail))), 0, Nat.zero_le _, fun j _ h => by omega, rfl⟩ ?_
    rintro _ ⟨i, hi, hok, rfl⟩
    by_cases hlt : i < z.gaps.length
    · have hno : ¬ (0 ≤ z.gaps[i] ∧ z.gaps[i] ≤ cap) → ¬ GappedP z cap := fun h h2 => h (h2.2 i hlt)
      have hok2 : (0 ≤ z.gaps[i] ∧ z.gaps[i] ≤ cap) → ∀ j (h : j < z.gaps.length), j < i + 1 → 0 ≤ z.gaps[j] ∧ z.gaps[j] ≤ cap := fun h j hj hji => by
        rcases Nat.lt_or_ge j i with h2 | h2
        · exact hok j hj h2
        · obtain rfl : j = i := by omega
          exact h
      generalize hg : z.gaps[i] = g at *
      by_cases g1 : g < 0
      · have d2 : decide (g < 0) = true := by simpa using g1
        (repeat' (first | simp (maxSteps := 5000000) (implicitDefEqProofs := false) only [ruA, ruB, aEv, aTake, aLoad, aIndex, aBin, bin2, ASt.get, aget, ASt.put, aResL, aOne, ↓reduceIte, reduceCtorEq, Nat.reduceLT, Nat.reduceEqDiff, eq_self, tyE_23, tyA_3, tyS_3, row_at, hlt, hg, d2] | (with_reducible refine aIf_split (fun _ => ?_) (fun _ => ?_)) | (with_reducible refine aSel_split (fun _ => ?_) (fun _ => ?_)) | (with_reducible refine aGd_split (fun _ => ?_) (fun _ => ?_)) | (with_reducible refine aDraw_quiet (by kernel_rfl) ?_)))
        all_goals exact retV ⟨false, rfl, by simp; exact hno (by omega)⟩
      · have d2 : decide (g < 0) = false := by simpa using g1
        by_cases g2 : cap < g
        · have d3 : decide (cap < g) = true := by simpa using g2
          (repeat' (first | simp (maxSteps := 5000000) (implicitDefEqProofs := false) only [ruA, ruB, aEv, aTake, aLoad, aIndex, aBin, bin2, ASt.get, aget, ASt.put, aResL, aOne, ↓reduceIte, reduceCtorEq, Nat.reduceLT, Nat.reduceEqDiff, eq_self, tyE_23, tyA_3, tyS_3, row_at, hlt, hg, d2, d3] | (with_reducible refine aIf_split (fun _ => ?_) (fun _ => ?_)) | (with_reducible refine aSel_split (fun _ => ?_) (fun _ => ?_)) | (with_reducible refine aGd_split (fun _ => ?_) (fun _ => ?_)) | (with_reducible refine aDraw_quiet (by kernel_rfl) ?_)))
          all_goals exact retV ⟨false, rfl, by simp; exact hno (by omega)⟩
        · have d3 : decide (cap < g) = false := by simpa using g2
          (repeat' (first | simp (maxSteps := 5000000) (implicitDefEqProofs := false) only [ruA, ruB, aEv, aTake, aLoad, aIndex, aBin, bin2, ASt.get, aget, ASt.put, ↓reduceIte, reduceCtorEq, Nat.reduceLT, Nat.reduceEqDiff, eq_self, tyE_23, tyA_3, tyS_3, row_at, hlt, hg, d2, d3] | (with_reducible refine aIf_split (fun _ => ?_) (fun _ => ?_)) | (with_reducible refine aSel_split (fun _ => ?_) (fun _ => ?_)) | (with_reducible refine aGd_split (fun _ => ?_) (fun _ => ?_)) | (with_reducible refine aDraw_quiet (by kernel_rfl) ?_)))
          all_goals exact roundI (weak_cut1 (by (first | ((simp only [envIn, tabIn, envLt, tabLt, AV.lt, ruW, ASt.get, aget, ↓reduceIte, Nat.reduceLT, Nat.reduceEqDiff, eq_self]) <;> (repeat' apply And.intro) <;> first | (rw [wrapK (by omega)]; done) | (simp; done) | omega) | fail))) ⟨i + 1, by omega, hok2 ⟨by omega, by omega⟩, rfl⟩ (by simp only [slotN, ruW, ASt.get, aget, ↓reduceIte, Nat.reduceLT, Nat.reduceEqDiff, eq_self]; omega)
    · (repeat' (first | simp (maxSteps := 5000000) (implicitDefEqProofs := false) only [ruA, ruB, aEv, aBin, bin2, ASt.get, aget, ASt.put, aResL, aOne, ↓reduceIte, Nat.reduceLT, Nat.reduceEqDiff, eq_self, hlt] | (with_reducible refine aIf_split (fun _ => ?_) (fun _ => ?_)) | (with_reducible refine aSel_split (fun _ => ?_) (fun _ => ?_)) | (with_reducible refine aGd_split (fun _ => ?_) (fun _ => ?_)) | (with_reducible refine aDraw_quiet (by kernel_rfl) ?_)))
      all_goals exact retV ⟨true, rfl, by simp; exact ⟨hl, fun j hj => hok j hj (by omega)⟩⟩
  · have d1 : ((z.gaps.length : Int) != max ((z.cls.length : Int) - 1) 0) = true := by simpa using hl
    (repeat' (first | simp (maxSteps := 5000000) (implicitDefEqProofs := false) only [ruA, ruB, aEv, aTake, aLoad, aField, aLen, aBin, bin2, ASt.get, aget, ASt.put, aBox, aCells, oneC, oneCL, envOf, aResL, aOne, ↓reduceIte, reduceCtorEq, Nat.reduceLT, Nat.reduceEqDiff, Nat.reduceAdd, Nat.reduceLeDiff, eq_self, ne_eq, aMM, tyF_25_1, tyA_23, tyS_23, tyE_23, tyF_25_0, tyA_22, tyS_22, tyE_22, e1, d1] | (with_reducible refine aIf_split (fun _ => ?_) (fun _ => ?_)) | (with_reducible refine aSel_split (fun _ => ?_) (fun _ => ?_)) | (with_reducible refine aGd_split (fun _ => ?_) (fun _ => ?_)) | (with_reducible refine aDraw_quiet (by kernel_rfl) ?_)))
    all_goals exact retV ⟨false, rfl, by simp; exact fun h => hl h.1⟩
/-- the places of classes with constants -/
def fixI (l : List Cls) (k : Nat) : List Nat := (List.range k).filter fun i => decide (0 ≤ (l[i]?.map (·.const)).getD (-1))
theorem fixI_snoc (l : List Cls) {k : Nat} (hk : k < l.length) : fixI l (k + 1) = if 0 ≤ l[k].const then fixI l k ++ [k] else fixI l k := by
  unfold fixI
  rw [List.range_succ, List.filter_append]
  by_cases h : 0 ≤ l[k].const
  · rw [if_pos h]
    simp [List.getElem?_eq_getElem hk, h]
  · rw [if_neg h]
    simp [List.getElem?_eq_getElem hk]
    omega
theorem fixI_len (l : List Cls) (k : Nat) : (fixI l k).length ≤ k := by
  have := List.length_filter_le (fun i => decide (0 ≤ (l[i]?.map (·.const)).getD (-1))) (List.range k)
  unfold fixI
  simpa using this
set_option maxRecDepth 100000 in
set_option maxHeartbeats 8000000 in
theorem fixed_A (z : Zn) (h1 : z.cls.length ≤ 1000000) : ADet Tryz.prog 40 [.agg (eZn z)] (own 3 1 ((fixI z.cls z.cls.length).map fun n : Nat => [eI (n : Int)])) := by
  refine adet_of_code mixedT Tryz.func40 rfl (by decide) Tryz.ntmps40 Tryz.results40 rfl (own_ok _ _ _) ?_
  (repeat' (first | simp (maxSteps := 5000000) (implicitDefEqProofs := false) only [ruA, ruB, aEv, aTake, aLoad, aField, aLen, ASt.get, aget, ASt.put, aBox, aCells, oneC, oneCL, envOf, ↓reduceIte, reduceCtorEq, Nat.reduceLT, Nat.reduceEqDiff, Nat.reduceAdd, Nat.reduceLeDiff, eq_self, ne_eq, tyF_25_0, tyA_22, tyS_22, tyE_22] | (with_reducible refine aIf_split (fun _ => ?_) (fun _ => ?_)) | (with_reducible refine aSel_split (fun _ => ?_) (fun _ => ?_)) | (with_reducible refine aGd_split (fun _ => ?_) (fun _ => ?_))))
  refine aLoop_of (fun st => ∃ k : Nat, k ≤ z.cls.length ∧ st = ⟨23, [(3, .osl 0), (7, .sl 2 (z.cls.map eCls)), (8, eI (z.cls.length : Int)), (9, eI (k : Int))], [(0, some (.row 3 1 ((fixI z.cls k).map fun n : Nat => [eI (n : Int)])))], 1⟩) (fun st => z.cls.length - slotN st 9) ⟨_, ((weak_nil 3 3 1 (by simp only [ASt.get, aget, ↓reduceIte, Nat.reduceLT, Nat.reduceEqDiff, eq_self])).trans (weak_ren1 [1] ⟨(by decide), (by (first | ((simp only [envInR, tabInR, envLt, tabLt, AObj.lt, AV.lt, AV.ren, AObj.ren, List.getD_cons_zero, List.length_cons, List.length_nil, ruW, ASt.get, aget, ↓reduceIte, Nat.reduceLT, Nat.reduceEqDiff, Nat.reduceAdd, eq_self, fixI, List.range_zero, List.filter_nil]) <;> (repeat' apply And.intro) <;> first | (rw [wrapK (by omega)]; done) | (simp; done) | omega) | fail))⟩)), 0, Nat.zero_le _, rfl⟩ ?_
  rintro _ ⟨k, hk, rfl⟩
  by_cases hlt : k < z.cls.length
  · have hs := fixI_snoc z.cls hlt
    have hl := fixI_len z.cls k
    generalize hc : z.cls[k] = c at *
    by_cases h : 0 ≤ c.const
    · have d1 : decide (0 ≤ c.const) = true := by simpa using h
      rw [if_pos h] at hs
      have hsn : (fixI z.cls (k + 1)).map (fun n : Nat => [eI (n : Int)]) = (fixI z.cls k).map (fun n : Nat => [eI (n : Int)]) ++ [[eI (k : Int)]] := by rw [hs, List.map_append]; rfl
      (repeat' (first | simp (maxSteps := 5000000) (implicitDefEqProofs := false) only [ruA, ruB, aEv, aTake, aLoad, aField, aIndex, aBin, bin2, ASt.get, aget, ASt.put, aStore, aBox, aAppend, aBuildSlice, aCells, oneC, oneCL, treeC, treeL, aLit, aDst, aSrc, appTab, Value.cells, Value.oneCell', ↓reduceIte, reduceCtorEq, Nat.reduceLT, Nat.reduceEqDiff, Nat.reduceAdd, Nat.reduceMul, Nat.reduceLeDiff, eq_self, aBuildSlice1, frzs, ownIds, tyE_22, tyA_46, tyS_46, tyZ_46, tyF_46_1, tyA_3, tyS_3, tyR_23, row_at, hlt, hc, d1] | (with_reducible refine aIf_split (fun _ => ?_) (fun _ => ?_)) | (with_reducible refine aSel_split (fun _ => ?_) (fun _ => ?_)) | (with_reducible refine aGd_split (fun _ => ?_) (fun _ => ?_)) | (with_reducible refine aDraw_quiet (by kernel_rfl) ?_) | (with_reducible apply And.intro)))
      all_goals first
        | rfl
        | omega
        | exact roundI (weak_ren1 [3] ⟨(by decide), (by (first | ((simp only [envInR, tabInR, envLt, tabLt, AObj.lt, AV.lt, AV.ren, AObj.ren, List.getD_cons_zero, List.length_cons, List.length_nil, ruW, ASt.get, aget, ↓reduceIte, Nat.reduceLT, Nat.reduceEqDiff, Nat.reduceAdd, eq_self, hsn]) <;> (repeat' apply And.intro) <;> first | (rw [wrapK (by omega)]; done) | (simp; done) | omega) | fail))⟩) ⟨k + 1, by omega, rfl⟩ (by simp only [slotN, ruW, ASt.get, aget, ↓reduceIte, Nat.reduceLT, Nat.reduceEqDiff, eq_self]; omega)
        | trace_state
    · have d1 : decide (0 ≤ c.const) = false := by simpa using h
      rw [if_neg h] at hs
      (repeat' (first | simp (maxSteps := 5000000) (implicitDefEqProofs := false) only [ruA, ruB, aEv, aTake, aLoad, aField, aIndex, aBin, bin2, ASt.get, aget, ASt.put, aStore, aBox, aCells, oneC, oneCL, Value.cells, Value.oneCell', ↓reduceIte, reduceCtorEq, Nat.reduceLT, Nat.reduceEqDiff, Nat.reduceAdd, eq_self, tyE_22, tyA_46, tyS_46, tyZ_46, tyF_46_1, tyA_3, tyS_3, row_at, hlt, hc, d1] | (with_reducible refine aIf_split (fun _ => ?_) (fun _ => ?_)) | (with_reducible refine aSel_split (fun _ => ?_) (fun _ => ?_)) | (with_reducible refine aGd_split (fun _ => ?_) (fun _ => ?_)) | (with_reducible refine aDraw_quiet (by kernel_rfl) ?_) | (with_reducible apply And.intro)))
      all_goals first
        | exact roundI (weak_ren1 [0] ⟨(by decide), (by (first | ((simp only [envInR, tabInR, envLt, tabLt, AObj.lt, AV.lt, AV.ren, AObj.ren, List.getD_cons_zero, List.length_cons, List.length_nil, ruW, ASt.get, aget, ↓reduceIte, reduceCtorEq, Nat.reduceLT, Nat.reduceEqDiff, Nat.reduceAdd, eq_self, hs]) <;> (repeat' apply And.intro) <;> first | (rw [wrapK (by omega)]; done) | (simp; done) | omega) | fail))⟩) ⟨k + 1, by omega, rfl⟩ (by simp only [slotN, ruW, ASt.get, aget, ↓reduceIte, Nat.reduceLT, Nat.reduceEqDiff, eq_self]; omega)
        | trace_state
  · obtain rfl : k = z.cls.length := by omega
    (repeat' (first | simp (maxSteps := 5000000) (implicitDefEqProofs := false) only [ruA, ruB, aEv, aBin, bin2, ASt.get, aget, ASt.put, aResL, aOne, ↓reduceIte, Nat.reduceLT, Nat.reduceEqDiff, eq_self, hlt] | (with_reducible refine aIf_split (fun _ => ?_) (fun _ => ?_)) | (with_reducible refine aSel_split (fun _ => ?_) (fun _ => ?_)) | (with_reducible refine aGd_split (fun _ => ?_) (fun _ => ?_)) | (with_reducible refine aDraw_quiet (by kernel_rfl) ?_)))
    all_goals exact aGives_own (by simp [ATab.get_cons])
/-- the gaps from one class on, up to another -/
def gapsPQ (z : Zn) (p q : Nat) : List Int := (z.gaps.take q).drop p
def RoomP (z : Zn) (p q : Nat) (cap a b : Int) : Prop :=
  gapV a b ((q : Int) - p - 1 + (gapsPQ z p q).sum + 1) = (q : Int) - p - 1 + (gapsPQ z p q).sum ∨ ((∃ g ∈ gapsPQ z p q, g = cap) ∧ (q : Int) - p - 1 + (gapsPQ z p q).sum < gapV a b ((q : Int) - p - 1 + (gapsPQ z p q).sum + 1))
theorem sum_bd (cap : Int) (hc : 0 ≤ cap) : ∀ l : List Int, (∀ g ∈ l, 0 ≤ g ∧ g ≤ cap) → 0 ≤ l.sum ∧ l.sum ≤ cap * l.length
  | [], _ => by simp
  | g :: l, h => by
    have h1 := sum_bd cap hc l fun x hx => h x (List.mem_cons_of_mem _ hx)
    have h2 := h g (List.mem_cons_self ..)
    rw [List.sum_cons, List.length_cons, Int.natCast_add, Int.mul_add]
    omega
set_option maxRecDepth 100000 in
set_option maxHeartbeats 8000000 in
theorem room_A (z : Zn) (p q : Nat) (cap a b : Int) (hpq : p < q) (hq : q ≤ z.gaps.length) (h2 : z.gaps.length ≤ 1000000) (hg : ∀ i (h : i < z.gaps.length), 0 ≤ z.gaps[i] ∧ z.gaps[i] ≤ cap) (hcap : 0 ≤ cap ∧ cap ≤ 4294967296) (ha : ok64 a) (hb : ok64 b) :
    ARel Tryz.prog 41 [.agg (eZn z), eI (p : Int), eI (q : Int), eI cap, eI a, eI b] fun R => ∃ t, R = val (.bool t) ∧ (t = true ↔ RoomP z p q cap a b) := by
  refine arel_of_code mixedT Tryz.func41 rfl (by decide) Tryz.ntmps41 Tryz.results41 rfl ?_
  unfold RoomP
  have hgl : (gapsPQ z p q).length = q - p := by unfold gapsPQ; rw [List.length_drop, List.length_take]; omega
  have hgb : ∀ g ∈ gapsPQ z p q, 0 ≤ g ∧ g ≤ cap := fun g hgm => by
    obtain ⟨i, hi, rfl⟩ := List.getElem_of_mem (List.mem_of_mem_take (List.mem_of_mem_drop hgm))
    exact hg i hi
  have hrows : List.drop p (List.take q (z.gaps.map fun n => [eI n])) = (gapsPQ z p q).map fun n => [eI n] := by unfold gapsPQ; rw [List.map_drop, List.map_take]
  generalize gapsPQ z p q = G at *
  have hgl2 : G.length ≤ 1000000 := by omega
  have hsb : ∀ k, k ≤ G.length → 0 ≤ (G.take k).sum ∧ (G.take k).sum ≤ 4294967296000000 := fun k hk => by
    have h := sum_bd cap hcap.1 (G.take k) fun g hgm => hgb g (List.mem_of_mem_take hgm)
    have h5 : ((G.take k).length : Int) ≤ 1000000 := by rw [List.length_take]; omega
    have h6 : cap * ((G.take k).length : Int) ≤ 4294967296 * 1000000 := Int.mul_le_mul hcap.2 h5 (by omega) (by omega)
    omega
  have hL : (((G.map fun n => [eI n]).length : Nat) : Int) = (G.length : Int) := by rw [List.length_map]
  have e1 : IntKind.i64.wrap ((q : Int) - (p : Int)) = (q : Int) - p := wrap_in (by omega) (by omega)
  obtain ⟨B, hB⟩ : ∃ B, (q : Int) - p - 1 = B := ⟨_, rfl⟩
  have e2 : IntKind.i64.wrap ((q : Int) - (p : Int) - 1) = B := by rw [hB]; exact wrap_in (by omega) (by omega)
  rw [hB]
  have hB1 : 0 ≤ B ∧ B ≤ 1000000 := by omega
  (repeat' (first | simp (maxSteps := 5000000) (implicitDefEqProofs := false) only [ruA, ruB, aEv, aTake, aLoad, aField, aLen, aBin, bin2, ASt.get, aget, ASt.put, aBox, aCells, oneC, oneCL, envOf, ↓reduceIte, reduceCtorEq, Nat.reduceLT, Nat.reduceEqDiff, Nat.reduceAdd, eq_self, ne_eq, aSliceW, aSlice, aSliceR, aBd, tyF_25_1, tyA_23, tyS_23, tyE_23, e1, e2, hrows] | (with_reducible refine aIf_split (fun _ => ?_) (fun _ => ?_)) | (with_reducible refine aSel_split (fun _ => ?_) (fun _ => ?_)) | (with_reducible refine aGd_split (fun _ => ?_) (fun _ => ?_))))
  refine ⟨⟨by omega, by omega⟩, ?_⟩
  clear hrows hg
  refine aLoop_of (fun st => ∃ (k : Nat) (s : Int) (w : Bool), k ≤ G.length ∧ s = B + (G.take k).sum ∧ (w = true ↔ ∃ g ∈ G.take k, g = cap) ∧ st = ⟨58, [(3, eI cap), (4, eI a), (5, eI b), (13, eI s), (14, .c (.bool w)), (26, sI G), (27, eI (G.length : Int)), (28, eI (k : Int))], [], 0⟩) (fun st => G.length - slotN st 28) ⟨_, (weak_cut1 (by (first | ((simp only [envIn, tabIn, envLt, tabLt, AV.lt, ruW, ASt.get, aget, ↓reduceIte, Nat.reduceLT, Nat.reduceEqDiff, eq_self]) <;> (repeat' apply And.intro) <;> first | (rw [wrapK (by omega)]; done) | (simp; done) | omega) | fail))), 0, B, false, Nat.zero_le _, by simp, by simp, rfl⟩ ?_
  rintro _ ⟨k, s, w, hk, hs, hw, rfl⟩
  by_cases hlt : k < G.length
  · have htk : G.take (k + 1) = G.take k ++ [G[k]] := List.take_succ_eq_append_getElem hlt
    have h5 := hsb k (by omega)
    have h6 := hsb (k + 1) (by omega)
    rw [htk, List.sum_append, List.sum_singleton] at h6
    have es : IntKind.i64.wrap (s + G[k]) = s + G[k] := wrap_in (by omega) (by omega)
    have hs2 : s + G[k] = B + (G.take (k + 1)).sum := by rw [htk, List.sum_append, List.sum_singleton]; omega
    have hw2 : (w || G[k] == cap) = true ↔ ∃ g ∈ G.take (k + 1), g = cap := by
      rw [htk, Bool.or_eq_true, hw]
      simp only [List.mem_append, List.mem_singleton, beq_iff_eq]
      constructor
      · rintro (⟨g, h1, h2⟩ | h)
        · exact ⟨g, .inl h1, h2⟩
        · exact ⟨_, .inr rfl, h⟩
      · rintro ⟨g, h1 | rfl, h2⟩
        · exact .inl ⟨g, h1, h2⟩
        · exact .inr h2
    clear hw hs hsb htk
    generalize hgk : G[k] = g at *
    cases w with
    | true =>
      (repeat' (first | simp (maxSteps := 5000000) (implicitDefEqProofs := false) only [ruA, ruB, aEv, aTake, aLoad, aIndex, aBin, bin2, ASt.get, aget, ASt.put, ↓reduceIte, reduceCtorEq, Nat.reduceLT, Nat.reduceEqDiff, eq_self, tyE_23, tyA_3, tyS_3, row_at, hlt, hgk, es] | (with_reducible refine aIf_split (fun _ => ?_) (fun _ => ?_)) | (with_reducible refine aSel_split (fun _ => ?_) (fun _ => ?_)) | (with_reducible refine aGd_split (fun _ => ?_) (fun _ => ?_)) | (with_reducible refine aDraw_quiet (by kernel_rfl) ?_)))
      all_goals exact roundI (weak_cut1 (by (first | ((simp only [envIn, tabIn, envLt, tabLt, AV.lt, ruW, ASt.get, aget, ↓reduceIte, Nat.reduceLT, Nat.reduceEqDiff, eq_self]) <;> (repeat' apply And.intro) <;> first | (rw [wrapK (by omega)]; done) | (simp; done) | omega) | fail))) ⟨k + 1, s + g, true, by omega, hs2, by simpa using hw2, rfl⟩ (by simp only [slotN, ruW, ASt.get, aget, ↓reduceIte, Nat.reduceLT, Nat.reduceEqDiff, eq_self]; omega)
    | false =>
      by_cases hgc : g = cap
      · have d1 : (g == cap) = true := by simpa using hgc
        (repeat' (first | simp (maxSteps := 5000000) (implicitDefEqProofs := false) only [ruA, ruB, aEv, aTake, aLoad, aIndex, aBin, bin2, ASt.get, aget, ASt.put, ↓reduceIte, reduceCtorEq, Nat.reduceLT, Nat.reduceEqDiff, eq_self, tyE_23, tyA_3, tyS_3, row_at, hlt, hgk, es, d1] | (with_reducible refine aIf_split (fun _ => ?_) (fun _ => ?_)) | (with_reducible refine aSel_split (fun _ => ?_) (fun _ => ?_)) | (with_reducible refine aGd_split (fun _ => ?_) (fun _ => ?_)) | (with_reducible refine aDraw_quiet (by kernel_rfl) ?_)))
        all_goals exact roundI (weak_cut1 (by (first | ((simp only [envIn, tabIn, envLt, tabLt, AV.lt, ruW, ASt.get, aget, ↓reduceIte, Nat.reduceLT, Nat.reduceEqDiff, eq_self]) <;> (repeat' apply And.intro) <;> first | (rw [wrapK (by omega)]; done) | (simp; done) | omega) | fail))) ⟨k + 1, s + g, true, by omega, hs2, by rw [← hw2, d1]; rfl, rfl⟩ (by simp only [slotN, ruW, ASt.get, aget, ↓reduceIte, Nat.reduceLT, Nat.reduceEqDiff, eq_self]; omega)
      · have d1 : (g == cap) = false := by simpa using hgc
        (repeat' (first | simp (maxSteps := 5000000) (implicitDefEqProofs := false) only [ruA, ruB, aEv, aTake, aLoad, aIndex, aBin, bin2, ASt.get, aget, ASt.put, ↓reduceIte, reduceCtorEq, Nat.reduceLT, Nat.reduceEqDiff, eq_self, tyE_23, tyA_3, tyS_3, row_at, hlt, hgk, es, d1] | (with_reducible refine aIf_split (fun _ => ?_) (fun _ => ?_)) | (with_reducible refine aSel_split (fun _ => ?_) (fun _ => ?_)) | (with_reducible refine aGd_split (fun _ => ?_) (fun _ => ?_)) | (with_reducible refine aDraw_quiet (by kernel_rfl) ?_)))
        all_goals exact roundI (weak_cut1 (by (first | ((simp only [envIn, tabIn, envLt, tabLt, AV.lt, ruW, ASt.get, aget, ↓reduceIte, Nat.reduceLT, Nat.reduceEqDiff, eq_self]) <;> (repeat' apply And.intro) <;> first | (rw [wrapK (by omega)]; done) | (simp; done) | omega) | fail))) ⟨k + 1, s + g, false, by omega, hs2, by rw [← hw2, d1]; rfl, rfl⟩ (by simp only [slotN, ruW, ASt.get, aget, ↓reduceIte, Nat.reduceLT, Nat.reduceEqDiff, eq_self]; omega)
  · obtain rfl : k = G.length := by omega
    have h5 := hsb G.length (Nat.le_refl _)
    rw [List.take_length] at hs hw h5
    have es : IntKind.i64.wrap (s + 1) = s + 1 := wrap_in (by omega) (by omega)
    have hG := numGap_A a b (s + 1) ha hb (by unfold ok64; omega)
    rw [← hs]
    by_cases g1 : gapV a b (s + 1) = s
    · have d1 : (gapV a b (s + 1) == s) = true := by simpa using g1
      (repeat' (first | simp (maxSteps := 5000000) (implicitDefEqProofs := false) only [ruA, ruB, aEv, aBin, bin2, ASt.get, aget, ASt.put, aResL, aOne, ↓reduceIte, Nat.reduceLT, Nat.reduceEqDiff, eq_self, hlt, es, d1] | (with_reducible refine aIf_split (fun _ => ?_) (fun _ => ?_)) | (with_reducible refine aSel_split (fun _ => ?_) (fun _ => ?_)) | (with_reducible refine aGd_split (fun _ => ?_) (fun _ => ?_)) | (with_reducible refine aDraw_quiet (by kernel_rfl) ?_) | ((with_reducible apply callV); exact (hG)) | ((with_reducible apply callD); exact (hG))))
      all_goals exact retV ⟨true, rfl, by simp [g1]⟩
    · have d1 : (gapV a b (s + 1) == s) = false := by simpa using g1
      cases w with
      | true =>
        (repeat' (first | simp (maxSteps := 5000000) (implicitDefEqProofs := false) only [ruA, ruB, aEv, aBin, bin2, ASt.get, aget, ASt.put, aResL, aOne, ↓reduceIte, Nat.reduceLT, Nat.reduceEqDiff, eq_self, hlt, es, d1] | (with_reducible refine aIf_split (fun _ => ?_) (fun _ => ?_)) | (with_reducible refine aSel_split (fun _ => ?_) (fun _ => ?_)) | (with_reducible refine aGd_split (fun _ => ?_) (fun _ => ?_)) | (with_reducible refine aDraw_quiet (by kernel_rfl) ?_) | ((with_reducible apply callV); exact (hG)) | ((with_reducible apply callD); exact (hG))))
        all_goals exact retV ⟨_, rfl, by simp at hw; simp [g1, hw]⟩
      | false =>
        (repeat' (first | simp (maxSteps := 5000000) (implicitDefEqProofs := false) only [ruA, ruB, aEv, aBin, bin2, ASt.get, aget, ASt.put, aResL, aOne, ↓reduceIte, Nat.reduceLT, Nat.reduceEqDiff, eq_self, hlt, es, d1] | (with_reducible refine aIf_split (fun _ => ?_) (fun _ => ?_)) | (with_reducible refine aSel_split (fun _ => ?_) (fun _ => ?_)) | (with_reducible refine aGd_split (fun _ => ?_) (fun _ => ?_)) | (with_reducible refine aDraw_quiet (by kernel_rfl) ?_) | ((with_reducible apply callV); exact (hG)) | ((with_reducible apply callD); exact (hG))))
        all_goals exact retV ⟨_, rfl, by simp at hw; simp [g1, hw]⟩
end
end Go.Proofs.YtodbhccfajgekaaGreatDoor
