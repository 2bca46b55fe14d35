/-
  Parts of the proof: SoO, ZC, ZD, ZE, NA, NB, C8.
-/
import Derived.Test.YtmcegfoaceilgaaGreatNmy11
set_option linter.unusedVariables false
set_option linter.unusedSimpArgs false
namespace Go.Proofs.YtmcegfoaceilgaaGreat
section
open Go.RowKit
theorem adet_iff {P : Program} {f : FuncId} {args : List AV} {Q : Prop} (h : ARel P f args fun R => ∃ b, R = val (.bool b) ∧ (b = true ↔ Q)) : ∃ t : Bool, (t = true ↔ Q) ∧ ADet P f args (val (.bool t)) := by
  by_cases hQ : Q
  · exact ⟨true, by simp [hQ], h.mono fun R ⟨b, h1, h2⟩ => by rw [h1, h2.2 hQ]⟩
  · exact ⟨false, by simp [hQ], h.mono fun R ⟨b, h1, h2⟩ => by
      cases b with
      | true => exact absurd (h2.1 rfl) hQ
      | false => exact h1⟩
def GappedP (z : Zn) (cap : Int) : Prop := (z.gaps.length : Int) = max ((z.cls.length : Int) - 1) 0 ∧ ∀ i (h : i < z.gaps.length), 0 ≤ z.gaps[i] ∧ z.gaps[i] ≤ cap
set_option maxRecDepth 100000 in
set_option maxHeartbeats 8000000 in
theorem gapped_A (z : Zn) (cap : Int) (h1 : z.cls.length ≤ 1000000) (h2 : z.gaps.length ≤ 1000000) : ARel Tryz.prog 73 [.agg (eZn z), eI cap] fun R => ∃ b, R = val (.bool b) ∧ (b = true ↔ GappedP z cap) := by
  refine arel_of_code mixedT Tryz.func73 rfl (by decide) Tryz.ntmps73 Tryz.results73 rfl ?_
  have e1 : IntKind.i64.wrap ((z.cls.length : Int) - 1) = (z.cls.length : Int) - 1 := wrap_in (by omega) (by omega)
  by_cases hl : (z.gaps.length : Int) = max ((z.cls.length : Int) - 1) 0
  · have d1 : ((z.gaps.length : Int) != max ((z.cls.length : Int) - 1) 0) = false := by simp [hl]
    (repeat' (first | simp (maxSteps := 5000000) (implicitDefEqProofs := false) only [ruA, ruB, aEv, aTake, aLoad, aField, aLen, aBin, bin2, ASt.get, aget, ASt.put, aBox, aCells, oneC, oneCL, envOf, ↓reduceIte, reduceCtorEq, Nat.reduceLT, Nat.reduceEqDiff, Nat.reduceAdd, Nat.reduceLeDiff, eq_self, ne_eq, aMM, tyF_41_1, tyA_33, tyS_33, tyE_33, tyF_41_0, tyA_39, tyS_39, tyE_39, e1, d1] | (with_reducible refine aIf_split (fun _ => ?_) (fun _ => ?_)) | (with_reducible refine aSel_split (fun _ => ?_) (fun _ => ?_)) | (with_reducible refine aGd_split (fun _ => ?_) (fun _ => ?_)) | (with_reducible refine aDraw_quiet (by kernel_rfl) ?_)))
    refine aLoop_of (fun st => ∃ i : Nat, i ≤ z.gaps.length ∧ (∀ j (h : j < z.gaps.length), j < i → 0 ≤ z.gaps[j] ∧ z.gaps[j] ≤ cap) ∧ st = ⟨31, [(1, eI cap), (17, sI z.gaps), (18, eI (z.gaps.length : Int)), (19, eI (i : Int))], [], 0⟩) (fun st => z.gaps.length - slotN st 19) ⟨_, (weak_cut1 (by (first | ((simp only [envIn, tabIn, envLt, tabLt, AV.lt, ruW, ASt.get, aget, ↓reduceIte, Nat.reduceLT, Nat.reduceEqDiff, eq_self]) <;> (repeat' apply And.intro) <;> first | (rw [wrapK (by omega)]; done) | (simp; done) | omega) | fail))), 0, Nat.zero_le _, fun j _ h => by omega, rfl⟩ ?_
    rintro _ ⟨i, hi, hok, rfl⟩
    by_cases hlt : i < z.gaps.length
    · have hno : ¬ (0 ≤ z.gaps[i] ∧ z.gaps[i] ≤ cap) → ¬ GappedP z cap := fun h h2 => h (h2.2 i hlt)
      have hok2 : (0 ≤ z.gaps[i] ∧ z.gaps[i] ≤ cap) → ∀ j (h : j < z.gaps.length), j < i + 1 → 0 ≤ z.gaps[j] ∧ z.gaps[j] ≤ cap := fun h j hj hji => by
        rcases Nat.lt_or_ge j i with h2 | h2
        · exact hok j hj h2
        · obtain rfl : j = i := by omega
          exact h
      generalize hg : z.gaps[i] = g at *
      by_cases g1 : g < 0
      · have d2 : decide (g < 0) = true := by simpa using g1
        (repeat' (first | simp (maxSteps := 5000000) (implicitDefEqProofs := false) only [ruA, ruB, aEv, aTake, aLoad, aIndex, aBin, bin2, ASt.get, aget, ASt.put, aResL, aOne, ↓reduceIte, reduceCtorEq, Nat.reduceLT, Nat.reduceEqDiff, eq_self, tyE_33, tyA_3, tyS_3, row_at, hlt, hg, d2] | (with_reducible refine aIf_split (fun _ => ?_) (fun _ => ?_)) | (with_reducible refine aSel_split (fun _ => ?_) (fun _ => ?_)) | (with_reducible refine aGd_split (fun _ => ?_) (fun _ => ?_)) | (with_reducible refine aDraw_quiet (by kernel_rfl) ?_)))
        all_goals exact retV ⟨false, rfl, by simp; exact hno (by omega)⟩
      · have d2 : decide (g < 0) = false := by simpa using g1
        by_cases g2 : cap < g
        · have d3 : decide (cap < g) = true := by simpa using g2
          (repeat' (first | simp (maxSteps := 5000000) (implicitDefEqProofs := false) only [ruA, ruB, aEv, aTake, aLoad, aIndex, aBin, bin2, ASt.get, aget, ASt.put, aResL, aOne, ↓reduceIte, reduceCtorEq, Nat.reduceLT, Nat.reduceEqDiff, eq_self, tyE_33, tyA_3, tyS_3, row_at, hlt, hg, d2, d3] | (with_reducible refine aIf_split (fun _ => ?_) (fun _ => ?_)) | (with_reducible refine aSel_split (fun _ => ?_) (fun _ => ?_)) | (with_reducible refine aGd_split (fun _ => ?_) (fun _ => ?_)) | (with_reducible refine aDraw_quiet (by kernel_rfl) ?_)))
          all_goals exact retV ⟨false, rfl, by simp; exact hno (by omega)⟩
        · have d3 : decide (cap < g) = false := by simpa using g2
          (repeat' (first | simp (maxSteps := 5000000) (implicitDefEqProofs := false) only [ruA, ruB, aEv, aTake, aLoad, aIndex, aBin, bin2, ASt.get, aget, ASt.put, ↓reduceIte, reduceCtorEq, Nat.reduceLT, Nat.reduceEqDiff, eq_self, tyE_33, tyA_3, tyS_3, row_at, hlt, hg, d2, d3] | (with_reducible refine aIf_split (fun _ => ?_) (fun _ => ?_)) | (with_reducible refine aSel_split (fun _ => ?_) (fun _ => ?_)) | (with_reducible refine aGd_split (fun _ => ?_) (fun _ => ?_)) | (with_reducible refine aDraw_quiet (by kernel_rfl) ?_)))
          all_goals exact roundI (weak_cut1 (by (first | ((simp only [envIn, tabIn, envLt, tabLt, AV.lt, ruW, ASt.get, aget, ↓reduceIte, Nat.reduceLT, Nat.reduceEqDiff, eq_self]) <;> (repeat' apply And.intro) <;> first | (rw [wrapK (by omega)]; done) | (simp; done) | omega) | fail))) ⟨i + 1, by omega, hok2 ⟨by omega, by omega⟩, rfl⟩ (by simp only [slotN, ruW, ASt.get, aget, ↓reduceIte, Nat.reduceLT, Nat.reduceEqDiff, eq_self]; omega)
    · (repeat' (first | simp (maxSteps := 5000000) (implicitDefEqProofs := false) only [ruA, ruB, aEv, aBin, bin2, ASt.get, aget, ASt.put, aResL, aOne, ↓reduceIte, Nat.reduceLT, Nat.reduceEqDiff, eq_self, hlt] | (with_reducible refine aIf_split (fun _ => ?_) (fun _ => ?_)) | (with_reducible refine aSel_split (fun _ => ?_) (fun _ => ?_)) | (with_reducible refine aGd_split (fun _ => ?_) (fun _ => ?_)) | (with_reducible refine aDraw_quiet (by kernel_rfl) ?_)))
      all_goals exact retV ⟨true, rfl, by simp; exact ⟨hl, fun j hj => hok j hj (by omega)⟩⟩
  · have d1 : ((z.gaps.length : Int) != max ((z.cls.length : Int) - 1) 0) = true := by simpa using hl
    (repeat' (first | simp (maxSteps := 5000000) (implicitDefEqProofs := false) only [ruA, ruB, aEv, aTake, aLoad, aField, aLen, aBin, bin2, ASt.get, aget, ASt.put, aBox, aCells, oneC, oneCL, envOf, aResL, aOne, ↓reduceIte, reduceCtorEq, Nat.reduceLT, Nat.reduceEqDiff, Nat.reduceAdd, Nat.reduceLeDiff, eq_self, ne_eq, aMM, tyF_41_1, tyA_33, tyS_33, tyE_33, tyF_41_0, tyA_39, tyS_39, tyE_39, e1, d1] | (with_reducible refine aIf_split (fun _ => ?_) (fun _ => ?_)) | (with_reducible refine aSel_split (fun _ => ?_) (fun _ => ?_)) | (with_reducible refine aGd_split (fun _ => ?_) (fun _ => ?_)) | (with_reducible refine aDraw_quiet (by kernel_rfl) ?_)))
    all_goals exact retV ⟨false, rfl, by simp; exact fun h => hl h.1⟩
/-- the places of classes with constants -/
def fixI (l : List Cls) (k : Nat) : List Nat := (List.range k).filter fun i => decide (0 ≤ (l[i]?.map (·.const)).getD (-1))
theorem fixI_snoc (l : List Cls) {k : Nat} (hk : k < l.length) : fixI l (k + 1) = if 0 ≤ l[k].const then fixI l k ++ [k] else fixI l k := by
  unfold fixI
  rw [List.range_succ, List.filter_append]
  by_cases h : 0 ≤ l[k].const
  · rw [if_pos h]
    simp [List.getElem?_eq_getElem hk, h]
  · rw [if_neg h]
    simp [List.getElem?_eq_getElem hk]
    omega
theorem fixI_len (l : List Cls) (k : Nat) : (fixI l k).length ≤ k := by
  have := List.length_filter_le (fun i => decide (0 ≤ (l[i]?.map (·.const)).getD (-1))) (List.range k)
  unfold fixI
  simpa using this
set_option maxRecDepth 100000 in
set_option maxHeartbeats 8000000 in
theorem fixed_A (z : Zn) (h1 : z.cls.length ≤ 1000000) : ADet Tryz.prog 74 [.agg (eZn z)] (own 3 1 ((fixI z.cls z.cls.length).map fun n : Nat => [eI (n : Int)])) := by
  refine adet_of_code mixedT Tryz.func74 rfl (by decide) Tryz.ntmps74 Tryz.results74 rfl (own_ok _ _ _) ?_
  (repeat' (first | simp (maxSteps := 5000000) (implicitDefEqProofs := false) only [ruA, ruB, aEv, aTake, aLoad, aField, aLen, ASt.get, aget, ASt.put, aBox, aCells, oneC, oneCL, envOf, ↓reduceIte, reduceCtorEq, Nat.reduceLT, Nat.reduceEqDiff, Nat.reduceAdd, Nat.reduceLeDiff, eq_self, ne_eq, tyF_41_0, tyA_39, tyS_39, tyE_39] | (with_reducible refine aIf_split (fun _ => ?_) (fun _ => ?_)) | (with_reducible refine aSel_split (fun _ => ?_) (fun _ => ?_)) | (with_reducible refine aGd_split (fun _ => ?_) (fun _ => ?_))))
  refine aLoop_of (fun st => ∃ k : Nat, k ≤ z.cls.length ∧ st = ⟨23, [(3, .osl 0), (7, .sl 2 (z.cls.map eCls)), (8, eI (z.cls.length : Int)), (9, eI (k : Int))], [(0, some (.row 3 1 ((fixI z.cls k).map fun n : Nat => [eI (n : Int)])))], 1⟩) (fun st => z.cls.length - slotN st 9) ⟨_, ((weak_nil 3 3 1 (by simp only [ASt.get, aget, ↓reduceIte, Nat.reduceLT, Nat.reduceEqDiff, eq_self])).trans (weak_ren1 [1] ⟨(by decide), (by (first | ((simp only [envInR, tabInR, envLt, tabLt, AObj.lt, AV.lt, AV.ren, AObj.ren, List.getD_cons_zero, List.length_cons, List.length_nil, ruW, ASt.get, aget, ↓reduceIte, Nat.reduceLT, Nat.reduceEqDiff, Nat.reduceAdd, eq_self, fixI, List.range_zero, List.filter_nil]) <;> (repeat' apply And.intro) <;> first | (rw [wrapK (by omega)]; done) | (simp; done) | omega) | fail))⟩)), 0, Nat.zero_le _, rfl⟩ ?_
  rintro _ ⟨k, hk, rfl⟩
  by_cases hlt : k < z.cls.length
  · have hs := fixI_snoc z.cls hlt
    have hl := fixI_len z.cls k
    generalize hc : z.cls[k] = c at *
    by_cases h : 0 ≤ c.const
    · have d1 : decide (0 ≤ c.const) = true := by simpa using h
      rw [if_pos h] at hs
      have hsn : (fixI z.cls (k + 1)).map (fun n : Nat => [eI (n : Int)]) = (fixI z.cls k).map (fun n : Nat => [eI (n : Int)]) ++ [[eI (k : Int)]] := by rw [hs, List.map_append]; rfl
      (repeat' (first | simp (maxSteps := 5000000) (implicitDefEqProofs := false) only [ruA, ruB, aEv, aTake, aLoad, aField, aIndex, aBin, bin2, ASt.get, aget, ASt.put, aStore, aBox, aAppend, aBuildSlice, aCells, oneC, oneCL, treeC, treeL, aLit, aDst, aSrc, appTab, Value.cells, Value.oneCell', ↓reduceIte, reduceCtorEq, Nat.reduceLT, Nat.reduceEqDiff, Nat.reduceAdd, Nat.reduceMul, Nat.reduceLeDiff, eq_self, aBuildSlice1, frzs, ownIds, tyE_39, tyA_58, tyS_58, tyZ_58, tyF_58_1, tyA_3, tyS_3, tyR_33, row_at, hlt, hc, d1] | (with_reducible refine aIf_split (fun _ => ?_) (fun _ => ?_)) | (with_reducible refine aSel_split (fun _ => ?_) (fun _ => ?_)) | (with_reducible refine aGd_split (fun _ => ?_) (fun _ => ?_)) | (with_reducible refine aDraw_quiet (by kernel_rfl) ?_) | (with_reducible apply And.intro)))
      all_goals first
        | rfl
        | omega
        | exact roundI (weak_ren1 [3] ⟨(by decide), (by (first | ((simp only [envInR, tabInR, envLt, tabLt, AObj.lt, AV.lt, AV.ren, AObj.ren, List.getD_cons_zero, List.length_cons, List.length_nil, ruW, ASt.get, aget, ↓reduceIte, Nat.reduceLT, Nat.reduceEqDiff, Nat.reduceAdd, eq_self, hsn]) <;> (repeat' apply And.intro) <;> first | (rw [wrapK (by omega)]; done) | (simp; done) | omega) | fail))⟩) ⟨k + 1, by omega, rfl⟩ (by simp only [slotN, ruW, ASt.get, aget, ↓reduceIte, Nat.reduceLT, Nat.reduceEqDiff, eq_self]; omega)
        | trace_state
    · have d1 : decide (0 ≤ c.const) = false := by simpa using h
      rw [if_neg h] at hs
      (repeat' (first | simp (maxSteps := 5000000) (implicitDefEqProofs := false) only [ruA, ruB, aEv, aTake, aLoad, aField, aIndex, aBin, bin2, ASt.get, aget, ASt.put, aStore, aBox, aCells, oneC, oneCL, Value.cells, Value.oneCell', ↓reduceIte, reduceCtorEq, Nat.reduceLT, Nat.reduceEqDiff, Nat.reduceAdd, eq_self, tyE_39, tyA_58, tyS_58, tyZ_58, tyF_58_1, tyA_3, tyS_3, row_at, hlt, hc, d1] | (with_reducible refine aIf_split (fun _ => ?_) (fun _ => ?_)) | (with_reducible refine aSel_split (fun _ => ?_) (fun _ => ?_)) | (with_reducible refine aGd_split (fun _ => ?_) (fun _ => ?_)) | (with_reducible refine aDraw_quiet (by kernel_rfl) ?_) | (with_reducible apply And.intro)))
      all_goals first
        | exact roundI (weak_ren1 [0] ⟨(by decide), (by (first | ((simp only [envInR, tabInR, envLt, tabLt, AObj.lt, AV.lt, AV.ren, AObj.ren, List.getD_cons_zero, List.length_cons, List.length_nil, ruW, ASt.get, aget, ↓reduceIte, reduceCtorEq, Nat.reduceLT, Nat.reduceEqDiff, Nat.reduceAdd, eq_self, hs]) <;> (repeat' apply And.intro) <;> first | (rw [wrapK (by omega)]; done) | (simp; done) | omega) | fail))⟩) ⟨k + 1, by omega, rfl⟩ (by simp only [slotN, ruW, ASt.get, aget, ↓reduceIte, Nat.reduceLT, Nat.reduceEqDiff, eq_self]; omega)
        | trace_state
  · obtain rfl : k = z.cls.length := by omega
    (repeat' (first | simp (maxSteps := 5000000) (implicitDefEqProofs := false) only [ruA, ruB, aEv, aBin, bin2, ASt.get, aget, ASt.put, aResL, aOne, ↓reduceIte, Nat.reduceLT, Nat.reduceEqDiff, eq_self, hlt] | (with_reducible refine aIf_split (fun _ => ?_) (fun _ => ?_)) | (with_reducible refine aSel_split (fun _ => ?_) (fun _ => ?_)) | (with_reducible refine aGd_split (fun _ => ?_) (fun _ => ?_)) | (with_reducible refine aDraw_quiet (by kernel_rfl) ?_)))
    all_goals exact aGives_own (by simp [ATab.get_cons])
/-- the gaps from one class on, up to another -/
def gapsPQ (z : Zn) (p q : Nat) : List Int := (z.gaps.take q).drop p
def RoomP (z : Zn) (p q : Nat) (cap a b : Int) : Prop :=
  gapV a b ((q : Int) - p - 1 + (gapsPQ z p q).sum + 1) = (q : Int) - p - 1 + (gapsPQ z p q).sum ∨ ((∃ g ∈ gapsPQ z p q, g = cap) ∧ (q : Int) - p - 1 + (gapsPQ z p q).sum < gapV a b ((q : Int) - p - 1 + (gapsPQ z p q).sum + 1))
theorem sum_bd (cap : Int) (hc : 0 ≤ cap) : ∀ l : List Int, (∀ g ∈ l, 0 ≤ g ∧ g ≤ cap) → 0 ≤ l.sum ∧ l.sum ≤ cap * l.length
  | [], _ => by simp
  | g :: l, h => by
    have h1 := sum_bd cap hc l fun x hx => h x (List.mem_cons_of_mem _ hx)
    have h2 := h g (List.mem_cons_self ..)
    rw [List.sum_cons, List.length_cons, Int.natCast_add, Int.mul_add]
    omega
set_option maxRecDepth 100000 in
set_option maxHeartbeats 8000000 in
theorem room_A (z : Zn) (p q : Nat) (cap a b : Int) (hpq : p < q) (hq : q ≤ z.gaps.length) (h2 : z.gaps.length ≤ 1000000) (hg : ∀ i (h : i < z.gaps.length), 0 ≤ z.gaps[i] ∧ z.gaps[i] ≤ cap) (hcap : 0 ≤ cap ∧ cap ≤ 4294967296) (ha : ok64 a) (hb : ok64 b) :
    ARel Tryz.prog 75 [.agg (eZn z), eI (p : Int), eI (q : Int), eI cap, eI a, eI b] fun R => ∃ t, R = val (.bool t) ∧ (t = true ↔ RoomP z p q cap a b) := by
  refine arel_of_code mixedT Tryz.func75 rfl (by decide) Tryz.ntmps75 Tryz.results75 rfl ?_
  unfold RoomP
  have hgl : (gapsPQ z p q).length = q - p := by unfold gapsPQ; rw [List.length_drop, List.length_take]; omega
  have hgb : ∀ g ∈ gapsPQ z p q, 0 ≤ g ∧ g ≤ cap := fun g hgm => by
    obtain ⟨i, hi, rfl⟩ := List.getElem_of_mem (List.mem_of_mem_take (List.mem_of_mem_drop hgm))
    exact hg i hi
  have hrows : List.drop p (List.take q (z.gaps.map fun n => [eI n])) = (gapsPQ z p q).map fun n => [eI n] := by unfold gapsPQ; rw [List.map_drop, List.map_take]
  generalize gapsPQ z p q = G at *
  have hgl2 : G.length ≤ 1000000 := by omega
  have hsb : ∀ k, k ≤ G.length → 0 ≤ (G.take k).sum ∧ (G.take k).sum ≤ 4294967296000000 := fun k hk => by
    have h := sum_bd cap hcap.1 (G.take k) fun g hgm => hgb g (List.mem_of_mem_take hgm)
    have h5 : ((G.take k).length : Int) ≤ 1000000 := by rw [List.length_take]; omega
    have h6 : cap * ((G.take k).length : Int) ≤ 4294967296 * 1000000 := Int.mul_le_mul hcap.2 h5 (by omega) (by omega)
    omega
  have hL : (((G.map fun n => [eI n]).length : Nat) : Int) = (G.length : Int) := by rw [List.length_map]
  have e1 : IntKind.i64.wrap ((q : Int) - (p : Int)) = (q : Int) - p := wrap_in (by omega) (by omega)
  obtain ⟨B, hB⟩ : ∃ B, (q : Int) - p - 1 = B := ⟨_, rfl⟩
  have e2 : IntKind.i64.wrap ((q : Int) - (p : Int) - 1) = B := by rw [hB]; exact wrap_in (by omega) (by omega)
  rw [hB]
  have hB1 : 0 ≤ B ∧ B ≤ 1000000 := by omega
  (repeat' (first | simp (maxSteps := 5000000) (implicitDefEqProofs := false) only [ruA, ruB, aEv, aTake, aLoad, aField, aLen, aBin, bin2, ASt.get, aget, ASt.put, aBox, aCells, oneC, oneCL, envOf, ↓reduceIte, reduceCtorEq, Nat.reduceLT, Nat.reduceEqDiff, Nat.reduceAdd, eq_self, ne_eq, aSliceW, aSlice, aSliceR, aBd, tyF_41_1, tyA_33, tyS_33, tyE_33, e1, e2, hrows] | (with_reducible refine aIf_split (fun _ => ?_) (fun _ => ?_)) | (with_reducible refine aSel_split (fun _ => ?_) (fun _ => ?_)) | (with_reducible refine aGd_split (fun _ => ?_) (fun _ => ?_))))
  refine ⟨⟨by omega, by omega⟩, ?_⟩
  clear hrows hg
  refine aLoop_of (fun st => ∃ (k : Nat) (s : Int) (w : Bool), k ≤ G.length ∧ s = B + (G.take k).sum ∧ (w = true ↔ ∃ g ∈ G.take k, g = cap) ∧ st = ⟨58, [(3, eI cap), (4, eI a), (5, eI b), (13, eI s), (14, .c (.bool w)), (26, sI G), (27, eI (G.length : Int)), (28, eI (k : Int))], [], 0⟩) (fun st => G.length - slotN st 28) ⟨_, (weak_cut1 (by (first | ((simp only [envIn, tabIn, envLt, tabLt, AV.lt, ruW, ASt.get, aget, ↓reduceIte, Nat.reduceLT, Nat.reduceEqDiff, eq_self]) <;> (repeat' apply And.intro) <;> first | (rw [wrapK (by omega)]; done) | (simp; done) | omega) | fail))), 0, B, false, Nat.zero_le _, by simp, by simp, rfl⟩ ?_
  rintro _ ⟨k, s, w, hk, hs, hw, rfl⟩
  by_cases hlt : k < G.length
  · have htk : G.take (k + 1) = G.take k ++ [G[k]] := List.take_succ_eq_append_getElem hlt
    have h5 := hsb k (by omega)
    have h6 := hsb (k + 1) (by omega)
    rw [htk, List.sum_append, List.sum_singleton] at h6
    have es : IntKind.i64.wrap (s + G[k]) = s + G[k] := wrap_in (by omega) (by omega)
    have hs2 : s + G[k] = B + (G.take (k + 1)).sum := by rw [htk, List.sum_append, List.sum_singleton]; omega
    have hw2 : (w || G[k] == cap) = true ↔ ∃ g ∈ G.take (k + 1), g = cap := by
      rw [htk, Bool.or_eq_true, hw]
      simp only [List.mem_append, List.mem_singleton, beq_iff_eq]
      constructor
      · rintro (⟨g, h1, h2⟩ | h)
        · exact ⟨g, .inl h1, h2⟩
        · exact ⟨_, .inr rfl, h⟩
      · rintro ⟨g, h1 | rfl, h2⟩
        · exact .inl ⟨g, h1, h2⟩
        · exact .inr h2
    clear hw hs hsb htk
    generalize hgk : G[k] = g at *
    cases w with
    | true =>
      (repeat' (first | simp (maxSteps := 5000000) (implicitDefEqProofs := false) only [ruA, ruB, aEv, aTake, aLoad, aIndex, aBin, bin2, ASt.get, aget, ASt.put, ↓reduceIte, reduceCtorEq, Nat.reduceLT, Nat.reduceEqDiff, eq_self, tyE_33, tyA_3, tyS_3, row_at, hlt, hgk, es] | (with_reducible refine aIf_split (fun _ => ?_) (fun _ => ?_)) | (with_reducible refine aSel_split (fun _ => ?_) (fun _ => ?_)) | (with_reducible refine aGd_split (fun _ => ?_) (fun _ => ?_)) | (with_reducible refine aDraw_quiet (by kernel_rfl) ?_)))
      all_goals exact roundI (weak_cut1 (by (first | ((simp only [envIn, tabIn, envLt, tabLt, AV.lt, ruW, ASt.get, aget, ↓reduceIte, Nat.reduceLT, Nat.reduceEqDiff, eq_self]) <;> (repeat' apply And.intro) <;> first | (rw [wrapK (by omega)]; done) | (simp; done) | omega) | fail))) ⟨k + 1, s + g, true, by omega, hs2, by simpa using hw2, rfl⟩ (by simp only [slotN, ruW, ASt.get, aget, ↓reduceIte, Nat.reduceLT, Nat.reduceEqDiff, eq_self]; omega)
    | false =>
      by_cases hgc : g = cap
      · have d1 : (g == cap) = true := by simpa using hgc
        (repeat' (first | simp (maxSteps := 5000000) (implicitDefEqProofs := false) only [ruA, ruB, aEv, aTake, aLoad, aIndex, aBin, bin2, ASt.get, aget, ASt.put, ↓reduceIte, reduceCtorEq, Nat.reduceLT, Nat.reduceEqDiff, eq_self, tyE_33, tyA_3, tyS_3, row_at, hlt, hgk, es, d1] | (with_reducible refine aIf_split (fun _ => ?_) (fun _ => ?_)) | (with_reducible refine aSel_split (fun _ => ?_) (fun _ => ?_)) | (with_reducible refine aGd_split (fun _ => ?_) (fun _ => ?_)) | (with_reducible refine aDraw_quiet (by kernel_rfl) ?_)))
        all_goals exact roundI (weak_cut1 (by (first | ((simp only [envIn, tabIn, envLt, tabLt, AV.lt, ruW, ASt.get, aget, ↓reduceIte, Nat.reduceLT, Nat.reduceEqDiff, eq_self]) <;> (repeat' apply And.intro) <;> first | (rw [wrapK (by omega)]; done) | (simp; done) | omega) | fail))) ⟨k + 1, s + g, true, by omega, hs2, by rw [← hw2, d1]; rfl, rfl⟩ (by simp only [slotN, ruW, ASt.get, aget, ↓reduceIte, Nat.reduceLT, Nat.reduceEqDiff, eq_self]; omega)
      · have d1 : (g == cap) = false := by simpa using hgc
        (repeat' (first | simp (maxSteps := 5000000) (implicitDefEqProofs := false) only [ruA, ruB, aEv, aTake, aLoad, aIndex, aBin, bin2, ASt.get, aget, ASt.put, ↓reduceIte, reduceCtorEq, Nat.reduceLT, Nat.reduceEqDiff, eq_self, tyE_33, tyA_3, tyS_3, row_at, hlt, hgk, es, d1] | (with_reducible refine aIf_split (fun _ => ?_) (fun _ => ?_)) | (with_reducible refine aSel_split (fun _ => ?_) (fun _ => ?_)) | (with_reducible refine aGd_split (fun _ => ?_) (fun _ => ?_)) | (with_reducible refine aDraw_quiet (by kernel_rfl) ?_)))
        all_goals exact roundI (weak_cut1 (by (first | ((simp only [envIn, tabIn, envLt, tabLt, AV.lt, ruW, ASt.get, aget, ↓reduceIte, Nat.reduceLT, Nat.reduceEqDiff, eq_self]) <;> (repeat' apply And.intro) <;> first | (rw [wrapK (by omega)]; done) | (simp; done) | omega) | fail))) ⟨k + 1, s + g, false, by omega, hs2, by rw [← hw2, d1]; rfl, rfl⟩ (by simp only [slotN, ruW, ASt.get, aget, ↓reduceIte, Nat.reduceLT, Nat.reduceEqDiff, eq_self]; omega)
  · obtain rfl : k = G.length := by omega
    have h5 := hsb G.length (Nat.le_refl _)
    rw [List.take_length] at hs hw h5
    have es : IntKind.i64.wrap (s + 1) = s + 1 := wrap_in (by omega) (by omega)
    have hG := numGap_A a b (s + 1) ha hb (by unfold ok64; omega)
    rw [← hs]
    by_cases g1 : gapV a b (s + 1) = s
    · have d1 : (gapV a b (s + 1) == s) = true := by simpa using g1
      (repeat' (first | simp (maxSteps := 5000000) (implicitDefEqProofs := false) only [ruA, ruB, aEv, aBin, bin2, ASt.get, aget, ASt.put, aResL, aOne, ↓reduceIte, Nat.reduceLT, Nat.reduceEqDiff, eq_self, hlt, es, d1] | (with_reducible refine aIf_split (fun _ => ?_) (fun _ => ?_)) | (with_reducible refine aSel_split (fun _ => ?_) (fun _ => ?_)) | (with_reducible refine aGd_split (fun _ => ?_) (fun _ => ?_)) | (with_reducible refine aDraw_quiet (by kernel_rfl) ?_) | ((with_reducible apply callV); exact (hG)) | ((with_reducible apply callD); exact (hG))))
      all_goals exact retV ⟨true, rfl, by simp [g1]⟩
    · have d1 : (gapV a b (s + 1) == s) = false := by simpa using g1
      cases w with
      | true =>
        (repeat' (first | simp (maxSteps := 5000000) (implicitDefEqProofs := false) only [ruA, ruB, aEv, aBin, bin2, ASt.get, aget, ASt.put, aResL, aOne, ↓reduceIte, Nat.reduceLT, Nat.reduceEqDiff, eq_self, hlt, es, d1] | (with_reducible refine aIf_split (fun _ => ?_) (fun _ => ?_)) | (with_reducible refine aSel_split (fun _ => ?_) (fun _ => ?_)) | (with_reducible refine aGd_split (fun _ => ?_) (fun _ => ?_)) | (with_reducible refine aDraw_quiet (by kernel_rfl) ?_) | ((with_reducible apply callV); exact (hG)) | ((with_reducible apply callD); exact (hG))))
        all_goals exact retV ⟨_, rfl, by simp at hw; simp [g1, hw]⟩
      | false =>
        (repeat' (first | simp (maxSteps := 5000000) (implicitDefEqProofs := false) only [ruA, ruB, aEv, aBin, bin2, ASt.get, aget, ASt.put, aResL, aOne, ↓reduceIte, Nat.reduceLT, Nat.reduceEqDiff, eq_self, hlt, es, d1] | (with_reducible refine aIf_split (fun _ => ?_) (fun _ => ?_)) | (with_reducible refine aSel_split (fun _ => ?_) (fun _ => ?_)) | (with_reducible refine aGd_split (fun _ => ?_) (fun _ => ?_)) | (with_reducible refine aDraw_quiet (by kernel_rfl) ?_) | ((with_reducible apply callV); exact (hG)) | ((with_reducible apply callD); exact (hG))))
        all_goals exact retV ⟨_, rfl, by simp at hw; simp [g1, hw]⟩
end
section
open Go.RowKit
theorem fixI_le (l : List Cls) : ∀ k, k ≤ l.length → (fixI l k).length ≤ nextN (l.take k)
  | 0, _ => by simp [fixI]
  | k + 1, h => by
    have ih := fixI_le l k (by omega)
    rw [fixI_snoc l (by omega), List.take_succ_eq_append_getElem (by omega), nextN_snoc]
    split
    · rw [List.length_append, List.length_singleton, if_neg (by omega)]
      omega
    · omega
theorem fixI_up (l : List Cls) (k : Nat) : (fixI l k).Pairwise (· < ·) := List.Pairwise.filter _ List.pairwise_lt_range
theorem fixI_mem (l : List Cls) (k : Nat) {i : Nat} (h : i ∈ fixI l k) : i < k := by
  unfold fixI at h
  simp at h
  exact h.1
def fixL (z : Zn) : List Nat := fixI z.cls z.cls.length
def CheckP (z : Zn) (n : Int) (c : List Int) (r : Int) : Prop :=
  ((0 ≤ n ∧ n ≤ 31) ∧ FormedP z.cls n ((sortR c).length : Int) ∧ GappedP z (capV r)) ∧ ∀ i, i + 1 < (fixL z).length → RoomP z ((fixL z).getD i 0) ((fixL z).getD (i + 1) 0) (capV r) ((sortR c).getD i 0) ((sortR c).getD (i + 1) 0)
set_option maxRecDepth 100000 in
set_option maxHeartbeats 16000000 in
theorem zoneCheck_A (z : Zn) (n : Int) (c : List Int) (r : Int) (h1 : z.cls.length ≤ 1000000) (h2 : z.gaps.length ≤ 1000000) (h3 : c.length ≤ 1000000) (hc : ∀ x ∈ c, ok64 x) : ARel Tryz.prog 44 [.agg (eZn z), eI n, sI c, eI r] fun R => ∃ b, R = val (.bool b) ∧ (b = true ↔ CheckP z n c r) := by
  refine arel_of_code mixedT Tryz.func44 rfl (by decide) Tryz.ntmps44 Tryz.results44 rfl ?_
  have hS := numSorted_A c h3
  have hCap := halveCap_A r
  have hcap0 := capV_0 r
  have hcap1 := capV_le r
  have hsl := sortR_len c
  have hso : ∀ x ∈ sortR c, ok64 x := fun x hx => hc x (((sortR_up c).2 x).1 hx)
  unfold CheckP
  generalize sortR c = sc at *
  generalize capV r = cap at *
  obtain ⟨t1, ht1, hF⟩ := adet_iff (formed_A z n (sc.length : Int) h1)
  obtain ⟨t2, ht2, hG⟩ := adet_iff (gapped_A z cap h1 h2)
  rw [← ht1, ← ht2]
  by_cases g1 : 0 ≤ n
  · have d1 : decide (n < 0) = false := by simpa using g1
    by_cases g2 : n ≤ 31
    · have d2 : decide (31 < n) = false := by simpa using g2
      cases t1 with
      | false =>
        (repeat' (first | simp (maxSteps := 5000000) (implicitDefEqProofs := false) only [ruA, ruB, aEv, aTake, aLoad, aLen, aBin, bin2, aUn, un1, ASt.get, aget, ASt.put, aBox, aCells, oneC, oneCL, envOf, aResL, aOne, ↓reduceIte, reduceCtorEq, Nat.reduceLT, Nat.reduceEqDiff, Nat.reduceAdd, eq_self, ne_eq, dref, dref1, AV.shift, tyA_41, tyS_41, tyE_23, d1, d2] | (with_reducible refine aIf_split (fun _ => ?_) (fun _ => ?_)) | (with_reducible refine aSel_split (fun _ => ?_) (fun _ => ?_)) | (with_reducible refine aGd_split (fun _ => ?_) (fun _ => ?_)) | (with_reducible refine aDraw_quiet (by kernel_rfl) ?_) | ((with_reducible apply callT); exact (hS); exact (.inl (by simp [roL, roA]))) | ((with_reducible apply callV); exact (hF)) | ((with_reducible apply callD); exact (hF))))
        all_goals exact retV ⟨false, rfl, by simp⟩
      | true =>
        cases t2 with
        | false =>
          (repeat' (first | simp (maxSteps := 5000000) (implicitDefEqProofs := false) only [ruA, ruB, aEv, aTake, aLoad, aLen, aBin, bin2, aUn, un1, ASt.get, aget, ASt.put, aBox, aCells, oneC, oneCL, envOf, aResL, aOne, ↓reduceIte, reduceCtorEq, Nat.reduceLT, Nat.reduceEqDiff, Nat.reduceAdd, eq_self, ne_eq, dref, dref1, AV.shift, tyA_41, tyS_41, tyE_23, d1, d2] | (with_reducible refine aIf_split (fun _ => ?_) (fun _ => ?_)) | (with_reducible refine aSel_split (fun _ => ?_) (fun _ => ?_)) | (with_reducible refine aGd_split (fun _ => ?_) (fun _ => ?_)) | (with_reducible refine aDraw_quiet (by kernel_rfl) ?_) | ((with_reducible apply callT); exact (hS); exact (.inl (by simp [roL, roA]))) | ((with_reducible apply callV); exact (hF)) | ((with_reducible apply callD); exact (hF)) | ((with_reducible apply callV); exact (hCap)) | ((with_reducible apply callD); exact (hCap)) | ((with_reducible apply callV); exact (hG)) | ((with_reducible apply callD); exact (hG))))
          all_goals exact retV ⟨false, rfl, by simp⟩
        | true =>
          have hfx : (fixL z).length ≤ sc.length := by
            have := fixI_le z.cls z.cls.length (Nat.le_refl _)
            rw [List.take_length] at this
            have h5 := (ht1.1 rfl).2.2
            unfold fixL
            omega
          have hup : (fixL z).Pairwise (· < ·) := fixI_up _ _
          have hlt2 : ∀ i ∈ fixL z, i < z.cls.length := fun i hi => fixI_mem _ _ hi
          have hgp := ht2.1 rfl
          have hX := fixed_A z h1
          have hXe : fixI z.cls z.cls.length = fixL z := rfl
          rw [hXe] at hX
          have hRoom : ∀ i, i + 1 < (fixL z).length → ∃ t : Bool, (t = true ↔ RoomP z ((fixL z).getD i 0) ((fixL z).getD (i + 1) 0) cap (sc.getD i 0) (sc.getD (i + 1) 0)) ∧ ADet Tryz.prog 75 [.agg (eZn z), eI (((fixL z).getD i 0 : Nat) : Int), eI (((fixL z).getD (i + 1) 0 : Nat) : Int), eI cap, eI (sc.getD i 0), eI (sc.getD (i + 1) 0)] (val (.bool t)) := fun i hi => by
            have e1 : (fixL z).getD i 0 = (fixL z)[i] := by rw [List.getD_eq_getElem?_getD, List.getElem?_eq_getElem (by omega)]; rfl
            have e2 : (fixL z).getD (i + 1) 0 = (fixL z)[i + 1] := by rw [List.getD_eq_getElem?_getD, List.getElem?_eq_getElem (by omega)]; rfl
            have e3 : sc.getD i 0 = sc[i] := by rw [List.getD_eq_getElem?_getD, List.getElem?_eq_getElem (by omega)]; rfl
            have e4 : sc.getD (i + 1) 0 = sc[i + 1] := by rw [List.getD_eq_getElem?_getD, List.getElem?_eq_getElem (by omega)]; rfl
            have h5 := List.pairwise_iff_getElem.1 hup i (i + 1) (by omega) hi (by omega)
            have h6 := hlt2 _ (List.getElem_mem hi)
            have h7 := hgp.1
            exact adet_iff (room_A z _ _ cap _ _ (by rw [e1, e2]; exact h5) (by rw [e2]; omega) h2 hgp.2 ⟨hcap0, hcap1⟩ (by rw [e3]; exact hso _ (List.getElem_mem _)) (by rw [e4]; exact hso _ (List.getElem_mem _)))
          have hal : (fixL z).length ≤ 1000000 := by
            have := fixI_len z.cls z.cls.length
            unfold fixL
            omega
          clear ht1 ht2 hup hlt2 hgp hXe
          generalize fixL z = at' at *
          (repeat' (first | simp (maxSteps := 5000000) (implicitDefEqProofs := false) only [ruA, ruB, aEv, aTake, aLoad, aLen, aBin, bin2, aUn, un1, ASt.get, aget, ASt.put, aBox, aCells, oneC, oneCL, envOf, ↓reduceIte, Nat.reduceLT, Nat.reduceEqDiff, Nat.reduceAdd, eq_self, ne_eq, dref, dref1, AV.shift, tyA_41, tyS_41, tyE_23, d1, d2] | (with_reducible refine aIf_split (fun _ => ?_) (fun _ => ?_)) | (with_reducible refine aSel_split (fun _ => ?_) (fun _ => ?_)) | (with_reducible refine aGd_split (fun _ => ?_) (fun _ => ?_)) | (with_reducible refine aDraw_quiet (by kernel_rfl) ?_) | ((with_reducible apply callT); exact (hS); exact (.inl (by simp [roL, roA]))) | ((with_reducible apply callV); exact (hF)) | ((with_reducible apply callD); exact (hF)) | ((with_reducible apply callV); exact (hCap)) | ((with_reducible apply callD); exact (hCap)) | ((with_reducible apply callV); exact (hG)) | ((with_reducible apply callD); exact (hG))))
          all_goals refine callO hX (.inr (fun row hr av ha => by
            obtain ⟨m, _, rfl⟩ := List.mem_map.1 hr
            simp at ha
            rw [ha]
            trivial)) ?_
          all_goals (repeat' (first | simp (maxSteps := 5000000) (implicitDefEqProofs := false) only [ruA, aEv, ASt.get, aget, ASt.put, ↓reduceIte, Nat.reduceLT, Nat.reduceAdd, eq_self] | (with_reducible refine aIf_split (fun _ => ?_) (fun _ => ?_)) | (with_reducible refine aSel_split (fun _ => ?_) (fun _ => ?_)) | (with_reducible refine aGd_split (fun _ => ?_) (fun _ => ?_))))
          refine aLoop_of (fun st => ∃ k : Nat, (k = 0 ∨ k + 1 ≤ at'.length) ∧ (∀ i, i + 1 < at'.length → i < k → RoomP z (at'.getD i 0) (at'.getD (i + 1) 0) cap (sc.getD i 0) (sc.getD (i + 1) 0)) ∧ st = ⟨66, [(3, eI r), (4, .op 0 0 0), (9, sI sc), (10, .osl 1), (11, eI ((k + 1 : Nat) : Int))], [(0, some (.box 41 (eZn z))), (1, some (.row 3 1 (at'.map fun n : Nat => [eI (n : Int)])))], 2⟩) (fun st => at'.length - slotN st 11) ⟨_, (weak_cut1 (by (first | ((simp only [envIn, tabIn, envLt, tabLt, AObj.lt, AV.lt, AV.ltL, ruW, ASt.get, aget, ↓reduceIte, reduceCtorEq, Nat.reduceLT, Nat.reduceEqDiff, Nat.reduceAdd, eq_self]) <;> (repeat' apply And.intro) <;> first | (rw [wrapK (by omega)]; done) | (simp; done) | omega) | fail))), 0, .inl rfl, fun i _ h => by omega, rfl⟩ ?_
          rintro _ ⟨k, hk, hok, rfl⟩
          by_cases hlt : k + 1 < at'.length
          · have hlt0 : k < at'.length := by omega
            have hs0 : k < sc.length := by omega
            have hs1 : k + 1 < sc.length := by omega
            have e1 : at'.getD k 0 = at'[k] := by rw [List.getD_eq_getElem?_getD, List.getElem?_eq_getElem (by omega)]; rfl
            have e2 : at'.getD (k + 1) 0 = at'[k + 1] := by rw [List.getD_eq_getElem?_getD, List.getElem?_eq_getElem (by omega)]; rfl
            have e3 : sc.getD k 0 = sc[k] := by rw [List.getD_eq_getElem?_getD, List.getElem?_eq_getElem (by omega)]; rfl
            have e4 : sc.getD (k + 1) 0 = sc[k + 1] := by rw [List.getD_eq_getElem?_getD, List.getElem?_eq_getElem (by omega)]; rfl
            have e5 : IntKind.i64.wrap (((k + 1 : Nat) : Int) - 1) = (k : Int) := by rw [wrap_in (by omega) (by omega)]; omega
            obtain ⟨t, ht, hR⟩ := hRoom k hlt
            have hok2 : RoomP z (at'.getD k 0) (at'.getD (k + 1) 0) cap (sc.getD k 0) (sc.getD (k + 1) 0) → ∀ i, i + 1 < at'.length → i < k + 1 → RoomP z (at'.getD i 0) (at'.getD (i + 1) 0) cap (sc.getD i 0) (sc.getD (i + 1) 0) := fun h i h1 h2 => by
              rcases Nat.lt_or_ge i k with h3 | h3
              · exact hok i h1 h3
              · obtain rfl : i = k := by omega
                exact h
            have hno : ¬ RoomP z (at'.getD k 0) (at'.getD (k + 1) 0) cap (sc.getD k 0) (sc.getD (k + 1) 0) → ¬ ∀ i, i + 1 < at'.length → RoomP z (at'.getD i 0) (at'.getD (i + 1) 0) cap (sc.getD i 0) (sc.getD (i + 1) 0) := fun h h2 => h (h2 k hlt)
            rw [← ht] at hok2 hno
            rw [e1, e2, e3, e4] at hR
            have f1 : at'[k]? = some at'[k] := List.getElem?_eq_getElem hlt0
            have f2 : at'[k + 1]? = some at'[k + 1] := List.getElem?_eq_getElem hlt
            have f3 : sc[k]? = some sc[k] := List.getElem?_eq_getElem hs0
            have f4 : sc[k + 1]? = some sc[k + 1] := List.getElem?_eq_getElem hs1
            clear hRoom e1 e2 e3 e4 ht hok
            obtain ⟨x1, hx1⟩ : ∃ x, at'[k] = x := ⟨_, rfl⟩
            obtain ⟨x2, hx2⟩ : ∃ x, at'[k + 1] = x := ⟨_, rfl⟩
            obtain ⟨x3, hx3⟩ : ∃ x, sc[k] = x := ⟨_, rfl⟩
            obtain ⟨x4, hx4⟩ : ∃ x, sc[k + 1] = x := ⟨_, rfl⟩
            rw [hx1, hx2, hx3, hx4] at hR
            cases t with
            | true =>
              (repeat' (first | simp (maxSteps := 5000000) (implicitDefEqProofs := false) only [ruA, ruB, aEv, aTake, aLoad, aIndex, aLen, aBin, bin2, aUn, un1, ASt.get, aget, ASt.put, ↓reduceIte, reduceCtorEq, Nat.reduceLT, Nat.reduceEqDiff, Nat.reduceAdd, eq_self, ne_eq, dref, dref1, tyA_41, tyS_41, tyE_23, tyE_33, tyA_3, tyS_3, tyA_2, tyS_2, row_at, hlt, hlt0, hs0, hs1, hx1, hx2, hx3, hx4, e5] | (with_reducible refine aIf_split (fun _ => ?_) (fun _ => ?_)) | (with_reducible refine aSel_split (fun _ => ?_) (fun _ => ?_)) | (with_reducible refine aGd_split (fun _ => ?_) (fun _ => ?_)) | (with_reducible refine aDraw_quiet (by kernel_rfl) ?_) | ((with_reducible apply callV); exact (hCap)) | ((with_reducible apply callD); exact (hCap)) | ((with_reducible apply callV); exact (hR)) | ((with_reducible apply callD); exact (hR))))
              all_goals exact roundI (weak_cut1 (by (first | ((simp only [envIn, tabIn, envLt, tabLt, AObj.lt, AV.lt, AV.ltL, ruW, ASt.get, aget, ↓reduceIte, Nat.reduceLT, Nat.reduceEqDiff, eq_self]) <;> (repeat' apply And.intro) <;> first | (rw [wrapK (by omega)]; done) | (simp; done) | omega) | fail))) ⟨k + 1, .inr (by omega), hok2 rfl, rfl⟩ (by simp only [slotN, ruW, ASt.get, aget, ↓reduceIte, Nat.reduceLT, Nat.reduceEqDiff, eq_self]; omega)
            | false =>
              (repeat' (first | simp (maxSteps := 5000000) (implicitDefEqProofs := false) only [ruA, ruB, aEv, aTake, aLoad, aIndex, aLen, aBin, bin2, aUn, un1, ASt.get, aget, ASt.put, aResL, aOne, ↓reduceIte, reduceCtorEq, Nat.reduceLT, Nat.reduceEqDiff, Nat.reduceAdd, eq_self, ne_eq, dref, dref1, tyA_41, tyS_41, tyE_23, tyE_33, tyA_3, tyS_3, tyA_2, tyS_2, row_at, hlt, hlt0, hs0, hs1, hx1, hx2, hx3, hx4, e5] | (with_reducible refine aIf_split (fun _ => ?_) (fun _ => ?_)) | (with_reducible refine aSel_split (fun _ => ?_) (fun _ => ?_)) | (with_reducible refine aGd_split (fun _ => ?_) (fun _ => ?_)) | (with_reducible refine aDraw_quiet (by kernel_rfl) ?_) | ((with_reducible apply callV); exact (hCap)) | ((with_reducible apply callD); exact (hCap)) | ((with_reducible apply callV); exact (hR)) | ((with_reducible apply callD); exact (hR))))
              all_goals exact retV ⟨false, rfl, by simpa using fun _ _ => hno (by simp)⟩
          · (repeat' (first | simp (maxSteps := 5000000) (implicitDefEqProofs := false) only [ruA, ruB, aEv, aLen, aBin, bin2, ASt.get, aget, ASt.put, aResL, aOne, ↓reduceIte, Nat.reduceLT, Nat.reduceEqDiff, eq_self, ne_eq, tyE_33, hlt] | (with_reducible refine aIf_split (fun _ => ?_) (fun _ => ?_)) | (with_reducible refine aSel_split (fun _ => ?_) (fun _ => ?_)) | (with_reducible refine aGd_split (fun _ => ?_) (fun _ => ?_)) | (with_reducible refine aDraw_quiet (by kernel_rfl) ?_)))
            all_goals exact retV ⟨true, rfl, by simp; exact ⟨⟨g1, g2⟩, fun i h => hok i h (by omega)⟩⟩
    · have d2 : decide (31 < n) = true := by simpa using g2
      (repeat' (first | simp (maxSteps := 5000000) (implicitDefEqProofs := false) only [ruA, ruB, aEv, aBin, bin2, ASt.get, aget, ASt.put, aBox, aCells, oneC, oneCL, envOf, aResL, aOne, ↓reduceIte, Nat.reduceLT, Nat.reduceEqDiff, Nat.reduceAdd, eq_self, AV.shift, d1, d2] | (with_reducible refine aIf_split (fun _ => ?_) (fun _ => ?_)) | (with_reducible refine aSel_split (fun _ => ?_) (fun _ => ?_)) | (with_reducible refine aGd_split (fun _ => ?_) (fun _ => ?_)) | (with_reducible refine aDraw_quiet (by kernel_rfl) ?_) | ((with_reducible apply callT); exact (hS); exact (.inl (by simp [roL, roA])))))
      all_goals exact retV ⟨false, rfl, by simp; omega⟩
  · have d1 : decide (n < 0) = true := by simpa using g1
    (repeat' (first | simp (maxSteps := 5000000) (implicitDefEqProofs := false) only [ruA, ruB, aEv, aBin, bin2, ASt.get, aget, ASt.put, aBox, aCells, oneC, oneCL, envOf, aResL, aOne, ↓reduceIte, Nat.reduceLT, Nat.reduceEqDiff, Nat.reduceAdd, eq_self, AV.shift, d1] | (with_reducible refine aIf_split (fun _ => ?_) (fun _ => ?_)) | (with_reducible refine aSel_split (fun _ => ?_) (fun _ => ?_)) | (with_reducible refine aGd_split (fun _ => ?_) (fun _ => ?_)) | (with_reducible refine aDraw_quiet (by kernel_rfl) ?_) | ((with_reducible apply callT); exact (hS); exact (.inl (by simp [roL, roA])))))
    all_goals exact retV ⟨false, rfl, by simp; omega⟩
end
section
open Go.RowKit
theorem fixI_map (vals c : List Int) (L : List Int) : ∀ k, k ≤ L.length → (fixI (L.map (clsOf vals c)) k).map (fun i => L.getD i 0) = (L.take k).filter fun x => decide (x ∈ sortR c)
  | 0, _ => by simp [fixI]
  | k + 1, h => by
    have ih := fixI_map vals c L k (by omega)
    have hk : k < L.length := by omega
    have hup := (sortR_up c).1
    rw [fixI_snoc _ (by rw [List.length_map]; omega), List.take_succ_eq_append_getElem hk, List.filter_append, ← ih, List.getElem_map]
    have e : L.getD k 0 = L[k] := by rw [List.getD_eq_getElem?_getD, List.getElem?_eq_getElem hk]; rfl
    have hc : (clsOf vals c L[k]).const = constN (sortR c) L[k] (sortR c).length := rfl
    rcases const_in hup L[k] with ⟨h1, h2⟩ | ⟨i, hi, h1, h2⟩
    · rw [if_neg (by rw [hc, h2]; omega)]
      simp [h1]
    · have hm : L[k] ∈ sortR c := h1 ▸ List.getElem_mem hi
      rw [if_pos (by rw [hc, h2]; omega), List.map_append]
      simp [hm, hk]
theorem fix_zone (vals c : List Int) (r : Int) : (fixL (zoneM vals c r)).map (fun i => (numsL vals c).getD i 0) = sortR c := by
  have hL : Up (numsL vals c) := (sortR_up (vals ++ c)).1
  have hm := (sortR_up (vals ++ c)).2
  have hsc := (sortR_up c).1
  have hscm := (sortR_up c).2
  have hin : ∀ x ∈ sortR c, x ∈ numsL vals c := fun x hx => (hm x).2 (List.mem_append_right _ ((hscm x).1 hx))
  have e : fixL (zoneM vals c r) = fixI ((numsL vals c).map (clsOf vals c)) (numsL vals c).length := by
    show fixI (clsL vals c) (clsL vals c).length = _
    unfold clsL
    rw [List.length_map]
  rw [e, fixI_map vals c _ _ (Nat.le_refl _), List.take_length]
  refine up_ext _ _ (List.Pairwise.filter _ hL) hsc fun z => ?_
  simp only [List.mem_filter, decide_eq_true_eq]
  exact ⟨fun h => h.2, fun h => ⟨hin z h, h⟩⟩
theorem gapsN_len (L : List Int) (r : Int) : (gapsN L r L.length).length = L.length - 1 := by simp [gapsN]
theorem gapsN_get (L : List Int) (r : Int) {i : Nat} (h : i + 1 < L.length) : (gapsN L r L.length)[i]? = some (gapV (L.getD i 0) (L.getD (i + 1) 0) (capV r)) := by
  unfold gapsN
  rw [List.getElem?_map, List.getElem?_range (by omega)]
  rfl
theorem gapsPQ_same (z : Zn) (p : Nat) : gapsPQ z p p = [] := by
  unfold gapsPQ
  rw [List.drop_eq_nil_iff, List.length_take]
  omega
theorem gapsPQ_snoc (z : Zn) {p q : Nat} {g : Int} (h : z.gaps[q]? = some g) (hpq : p ≤ q) : gapsPQ z p (q + 1) = gapsPQ z p q ++ [g] := by
  have hq : q < z.gaps.length := (List.getElem?_eq_some_iff.1 h).1
  unfold gapsPQ
  rw [List.take_add_one, h, List.drop_append_of_le_length (by rw [List.length_take]; omega)]
  rfl
theorem room_sum (vals c : List Int) (r : Int) (p : Nat) : ∀ d, p + d < (numsL vals c).length → 0 < d →
    ((d : Int) - 1 + (gapsPQ (zoneM vals c r) p (p + d)).sum ≤ (numsL vals c).getD (p + d) 0 - (numsL vals c).getD p 0 - 1 ∧ 0 ≤ (gapsPQ (zoneM vals c r) p (p + d)).sum) ∧
    ((∃ g ∈ gapsPQ (zoneM vals c r) p (p + d), g = capV r) ∨ (d : Int) - 1 + (gapsPQ (zoneM vals c r) p (p + d)).sum = (numsL vals c).getD (p + d) 0 - (numsL vals c).getD p 0 - 1)
  | 0, _, h => by omega
  | d + 1, hd, _ => by
    have hL : Up (numsL vals c) := (sortR_up (vals ++ c)).1
    have hg := gapsN_get (numsL vals c) r (i := p + d) (by omega)
    have hs := gapsPQ_snoc (zoneM vals c r) (p := p) (q := p + d) hg (by omega)
    have hlt := List.pairwise_iff_getElem.1 hL (p + d) (p + d + 1) (by omega) (by omega) (by omega)
    have e1 : (numsL vals c).getD (p + d) 0 = (numsL vals c)[p + d] := by rw [List.getD_eq_getElem?_getD, List.getElem?_eq_getElem (by omega)]; rfl
    have e2 : (numsL vals c).getD (p + d + 1) 0 = (numsL vals c)[p + d + 1] := by rw [List.getD_eq_getElem?_getD, List.getElem?_eq_getElem (by omega)]; rfl
    rw [← e1, ← e2] at hlt
    have hcap := capV_0 r
    have hgv : gapV ((numsL vals c).getD (p + d) 0) ((numsL vals c).getD (p + d + 1) 0) (capV r) = capV r ∨ gapV ((numsL vals c).getD (p + d) 0) ((numsL vals c).getD (p + d + 1) 0) (capV r) = (numsL vals c).getD (p + d + 1) 0 - (numsL vals c).getD (p + d) 0 - 1 := by
      unfold gapV
      omega
    have hgb : 0 ≤ gapV ((numsL vals c).getD (p + d) 0) ((numsL vals c).getD (p + d + 1) 0) (capV r) ∧ gapV ((numsL vals c).getD (p + d) 0) ((numsL vals c).getD (p + d + 1) 0) (capV r) ≤ (numsL vals c).getD (p + d + 1) 0 - (numsL vals c).getD (p + d) 0 - 1 := by
      unfold gapV
      omega
    generalize gapV ((numsL vals c).getD (p + d) 0) ((numsL vals c).getD (p + d + 1) 0) (capV r) = g at *
    show _ ∧ _
    rw [show p + (d + 1) = p + d + 1 from rfl, hs, List.sum_append, List.sum_singleton]
    have hpush : ((d + 1 : Nat) : Int) = (d : Int) + 1 := by omega
    rw [hpush]
    rcases Nat.eq_zero_or_pos d with rfl | hd0
    · rw [show p + 0 = p from rfl] at *
      rw [gapsPQ_same]
      simp only [List.sum_nil, List.nil_append, List.mem_singleton]
      clear hL hg hs
      refine ⟨by omega, ?_⟩
      rcases hgv with h | h
      · exact .inl ⟨g, rfl, h⟩
      · exact .inr (by omega)
    · obtain ⟨⟨h1, h0⟩, h2⟩ := room_sum vals c r p d (by omega) hd0
      clear hL hg hs
      refine ⟨by omega, ?_⟩
      rcases hgv with h | h
      · exact .inl ⟨g, List.mem_append_right _ (List.mem_singleton.2 rfl), h⟩
      · rcases h2 with ⟨x, hx, h3⟩ | h2
        · exact .inl ⟨x, List.mem_append_left _ hx, h3⟩
        · exact .inr (by omega)
theorem check_zone (vals c : List Int) (r : Int) (hv : vals.length ≤ 31) : CheckP (zoneM vals c r) (vals.length : Int) c r := by
  have hcap := capV_0 r
  have hcl : (zoneM vals c r).cls.length = (numsL vals c).length := by show (clsL vals c).length = _; unfold clsL; rw [List.length_map]
  have hgl : (zoneM vals c r).gaps.length = (numsL vals c).length - 1 := gapsN_len _ r
  refine ⟨⟨⟨by omega, by omega⟩, formed_zone vals c hv, by omega, fun i hi => ?_⟩, fun i hi => ?_⟩
  · rw [hgl] at hi
    have h := gapsN_get (numsL vals c) r (i := i) (by omega)
    have e : (zoneM vals c r).gaps[i] = gapV ((numsL vals c).getD i 0) ((numsL vals c).getD (i + 1) 0) (capV r) := by
      have h2 : (zoneM vals c r).gaps[i]? = some (zoneM vals c r).gaps[i] := List.getElem?_eq_getElem (by omega)
      exact Option.some.inj (h2.symm.trans h)
    rw [e]
    unfold gapV
    omega
  · have hf := fix_zone vals c r
    have hup : (fixL (zoneM vals c r)).Pairwise (· < ·) := fixI_up _ _
    have hlt2 : ∀ j ∈ fixL (zoneM vals c r), j < (zoneM vals c r).cls.length := fun j hj => fixI_mem _ _ hj
    have hval : ∀ j, j < (fixL (zoneM vals c r)).length → (numsL vals c).getD ((fixL (zoneM vals c r)).getD j 0) 0 = (sortR c).getD j 0 := fun j hj => by
      rw [← hf]
      simp [List.getD_eq_getElem?_getD, List.getElem?_map, List.getElem?_eq_getElem hj]
    have a1 := hval i (by omega)
    have a2 := hval (i + 1) hi
    have e1 : (fixL (zoneM vals c r)).getD i 0 = (fixL (zoneM vals c r))[i] := by rw [List.getD_eq_getElem?_getD, List.getElem?_eq_getElem (by omega)]; rfl
    have e2 : (fixL (zoneM vals c r)).getD (i + 1) 0 = (fixL (zoneM vals c r))[i + 1] := by rw [List.getD_eq_getElem?_getD, List.getElem?_eq_getElem (by omega)]; rfl
    have h5 := List.pairwise_iff_getElem.1 hup i (i + 1) (by omega) hi (by omega)
    have h6 := hlt2 _ (List.getElem_mem hi)
    rw [← e1, ← e2] at h5
    rw [← e2, hcl] at h6
    rw [← a1, ← a2]
    clear hf hup hlt2 hval a1 a2 e1 e2
    generalize (fixL (zoneM vals c r)).getD i 0 = p at *
    generalize (fixL (zoneM vals c r)).getD (i + 1) 0 = q at *
    obtain ⟨d, rfl⟩ : ∃ d, q = p + d := ⟨q - p, by omega⟩
    obtain ⟨⟨h1, h0⟩, h2⟩ := room_sum vals c r p d h6 (by omega)
    unfold RoomP
    have ed : ((p + d : Nat) : Int) - (p : Int) - 1 = (d : Int) - 1 := by omega
    rw [ed]
    generalize (gapsPQ (zoneM vals c r) p (p + d)).sum = S at *
    generalize (numsL vals c).getD (p + d) 0 = b at *
    generalize (numsL vals c).getD p 0 = a at *
    have hd : 0 < d := by omega
    by_cases hS : (d : Int) - 1 + S = b - a - 1
    · refine .inl ?_
      unfold gapV
      omega
    · rcases h2 with h2 | h2
      · refine .inr ⟨h2, ?_⟩
        unfold gapV
        omega
      · exact absurd h2 hS
end
section
open Go.RowKit
theorem zoneM_len (vals c : List Int) (r : Int) (hv : vals.length ≤ 31) (hc : c.length ≤ 31) : (zoneM vals c r).cls.length ≤ 1000000 ∧ (zoneM vals c r).gaps.length ≤ 1000000 := by
  have h := sortR_len (vals ++ c)
  have e : (zoneM vals c r).gaps.length = (numsL vals c).length - 1 := gapsN_len _ r
  have e2 : (zoneM vals c r).cls.length = (numsL vals c).length := by show (clsL vals c).length = _; unfold clsL; rw [List.length_map]
  rw [List.length_append] at h
  have h2 : (numsL vals c).length ≤ vals.length + c.length := h
  omega
end
section
open Go.RowKit
set_option maxRecDepth 100000 in
set_option maxHeartbeats 8000000 in
theorem stateLeft_A (m : Mod) (c : List Int) (he : m.events.length ≤ 10) (hm : ∀ e ∈ m.events, e.times ≤ 10 ∧ e.sets.length ≤ 10) (hc : c.length ≤ 1000000) : ADet Tryz.prog 25 [.agg (eMod m), sI c] (val (.int .i64 (leftN m c m.events.length))) := by
  refine adet_of_code mixedT Tryz.func25 rfl (by decide) Tryz.ntmps25 Tryz.results25 rfl (val_ok _) ?_
  (repeat' (first | simp (maxSteps := 5000000) (implicitDefEqProofs := false) only [ruA, ruB, aEv, aTake, aLoad, aField, aLen, ASt.get, aget, ASt.put, aBox, aCells, oneC, oneCL, envOf, ↓reduceIte, reduceCtorEq, Nat.reduceLT, Nat.reduceEqDiff, Nat.reduceAdd, Nat.reduceLeDiff, eq_self, ne_eq, tyF_32_5, tyA_26, tyS_26, tyE_26] | (with_reducible refine aIf_split (fun _ => ?_) (fun _ => ?_)) | (with_reducible refine aSel_split (fun _ => ?_) (fun _ => ?_)) | (with_reducible refine aGd_split (fun _ => ?_) (fun _ => ?_))))
  refine aLoop_of (fun st => ∃ (k : Nat) (n : Int), k ≤ m.events.length ∧ n = leftN m c k ∧ 0 ≤ n ∧ n ≤ 100 * k ∧ st = ⟨42, [(1, sI c), (5, eI n), (10, .sl 5 (m.events.map eEv)), (11, eI (m.events.length : Int)), (12, eI (k : Int))], [], 0⟩) (fun st => m.events.length - slotN st 12) ⟨_, (weak_cut1 (by (first | ((simp only [envIn, tabIn, envLt, tabLt, AV.lt, ruW, ASt.get, aget, ↓reduceIte, Nat.reduceLT, Nat.reduceEqDiff, eq_self]) <;> (repeat' apply And.intro) <;> first | (rw [wrapK (by omega)]; done) | (simp; done) | omega) | fail))), 0, 0, Nat.zero_le _, rfl, by omega, by omega, rfl⟩ ?_
  rintro _ ⟨k, n, hk, hn, hn0, hn1, rfl⟩
  by_cases hlt : k < m.events.length
  · obtain ⟨e, hev⟩ : ∃ e, m.events[k] = e := ⟨_, rfl⟩
    obtain ⟨ht, hs⟩ := hm e (hev ▸ List.getElem_mem hlt)
    have hw0 := wasN_pos c k
    have hE : evN m c k = (max 0 (e.times - wasN c k)).toNat * (e.sets.length : Int) := by
      unfold evN
      rw [List.getElem?_eq_getElem hlt, hev]
      rfl
    obtain ⟨w, hw⟩ : ∃ w, wasN c k = w := ⟨_, rfl⟩
    rw [hw] at hE hw0
    obtain ⟨J, hJ⟩ : ∃ J, (max 0 (e.times - w)).toNat = J := ⟨_, rfl⟩
    rw [hJ] at hE
    have hJ10 : J ≤ 10 := by omega
    obtain ⟨S, hS⟩ : ∃ S, e.sets.length = S := ⟨_, rfl⟩
    rw [hS] at hE hs
    have hjs : J * S ≤ 10 * 10 := Nat.mul_le_mul (by omega) (by omega)
    have hL : leftN m c (k + 1) = n + ((J * S : Nat) : Int) := by rw [leftN, hE, ← hn]; simp
    by_cases hlw : w < e.times
    · have d2 : decide (w < e.times) = true := by simpa using hlw
      have ew0 : IntKind.i64.wrap (e.times - w) = (J : Int) := by rw [wrap_in (by omega) (by omega)]; omega
      have ew1 : IntKind.i64.wrap ((J : Int) * (S : Int)) = ((J * S : Nat) : Int) := by rw [← Int.natCast_mul]; exact wrap_in (by omega) (by omega)
      have ew2 : IntKind.i64.wrap (n + ((J * S : Nat) : Int)) = n + ((J * S : Nat) : Int) := wrap_in (by omega) (by omega)
      by_cases hkc : k < c.length
      · have hmx : max 0 c[k] = w := by
          rw [← hw, wasN, List.getD_eq_getElem?_getD, List.getElem?_eq_getElem hkc]
          simp only [Option.getD_some]
          split <;> omega
        (repeat' (first | simp (maxSteps := 5000000) (implicitDefEqProofs := false) only [ruA, ruB, aEv, aTake, aLoad, aField, aIndex, aLen, aBin, bin2, ASt.get, aget, ASt.put, aStore, aBox, aCells, oneC, oneCL, Value.cells, Value.oneCell', ↓reduceIte, reduceCtorEq, Nat.reduceLT, Nat.reduceEqDiff, Nat.reduceAdd, Nat.reduceLeDiff, eq_self, ne_eq, aMM, tyE_26, tyA_56, tyS_56, tyZ_56, tyE_33, tyA_3, tyS_3, tyF_56_4, tyF_56_3, tyA_33, tyS_33, row_at, hlt, hkc, hev, hmx, hS, d2, ew0, ew1, ew2] | (with_reducible refine aIf_split (fun _ => ?_) (fun _ => ?_)) | (with_reducible refine aSel_split (fun _ => ?_) (fun _ => ?_)) | (with_reducible refine aGd_split (fun _ => ?_) (fun _ => ?_)) | (with_reducible refine aDraw_quiet (by kernel_rfl) ?_)))
        exact roundI (weak_cut1 (by (first | ((simp only [envIn, tabIn, envLt, tabLt, AV.lt, ruW, ASt.get, aget, ↓reduceIte, Nat.reduceLT, Nat.reduceEqDiff, eq_self]) <;> (repeat' apply And.intro) <;> first | (rw [wrapK (by omega)]; done) | (simp; done) | omega) | fail))) ⟨k + 1, n + ((J * S : Nat) : Int), by omega, hL.symm, by omega, by omega, rfl⟩ (by simp only [slotN, ruW, ASt.get, aget, ↓reduceIte, Nat.reduceLT, Nat.reduceEqDiff, eq_self]; omega)
      · obtain rfl : w = 0 := by rw [← hw, wasN, if_neg (fun h => hkc h.1)]
        (repeat' (first | simp (maxSteps := 5000000) (implicitDefEqProofs := false) only [ruA, ruB, aEv, aTake, aLoad, aField, aIndex, aLen, aBin, bin2, ASt.get, aget, ASt.put, aStore, aBox, aCells, oneC, oneCL, Value.cells, Value.oneCell', ↓reduceIte, reduceCtorEq, Nat.reduceLT, Nat.reduceEqDiff, Nat.reduceAdd, Nat.reduceLeDiff, eq_self, ne_eq, tyE_26, tyA_56, tyS_56, tyZ_56, tyE_33, tyA_3, tyS_3, tyF_56_4, tyF_56_3, tyA_33, tyS_33, row_at, hlt, hkc, hev, hS, d2, ew0, ew1, ew2] | (with_reducible refine aIf_split (fun _ => ?_) (fun _ => ?_)) | (with_reducible refine aSel_split (fun _ => ?_) (fun _ => ?_)) | (with_reducible refine aGd_split (fun _ => ?_) (fun _ => ?_)) | (with_reducible refine aDraw_quiet (by kernel_rfl) ?_)))
        exact roundI (weak_cut1 (by (first | ((simp only [envIn, tabIn, envLt, tabLt, AV.lt, ruW, ASt.get, aget, ↓reduceIte, Nat.reduceLT, Nat.reduceEqDiff, eq_self]) <;> (repeat' apply And.intro) <;> first | (rw [wrapK (by omega)]; done) | (simp; done) | omega) | fail))) ⟨k + 1, n + ((J * S : Nat) : Int), by omega, hL.symm, by omega, by omega, rfl⟩ (by simp only [slotN, ruW, ASt.get, aget, ↓reduceIte, Nat.reduceLT, Nat.reduceEqDiff, eq_self]; omega)
    · have d2 : decide (w < e.times) = false := by simpa using hlw
      obtain rfl : J = 0 := by omega
      rw [Nat.zero_mul, Int.natCast_zero, Int.add_zero] at hL
      by_cases hkc : k < c.length
      · have hmx : max 0 c[k] = w := by
          rw [← hw, wasN, List.getD_eq_getElem?_getD, List.getElem?_eq_getElem hkc]
          simp only [Option.getD_some]
          split <;> omega
        (repeat' (first | simp (maxSteps := 5000000) (implicitDefEqProofs := false) only [ruA, ruB, aEv, aTake, aLoad, aField, aIndex, aLen, aBin, bin2, ASt.get, aget, ASt.put, aStore, aBox, aCells, oneC, oneCL, Value.cells, Value.oneCell', ↓reduceIte, reduceCtorEq, Nat.reduceLT, Nat.reduceEqDiff, Nat.reduceAdd, eq_self, ne_eq, aMM, tyE_26, tyA_56, tyS_56, tyZ_56, tyE_33, tyA_3, tyS_3, tyF_56_4, row_at, hlt, hkc, hev, hmx, d2] | (with_reducible refine aIf_split (fun _ => ?_) (fun _ => ?_)) | (with_reducible refine aSel_split (fun _ => ?_) (fun _ => ?_)) | (with_reducible refine aGd_split (fun _ => ?_) (fun _ => ?_)) | (with_reducible refine aDraw_quiet (by kernel_rfl) ?_)))
        exact roundI (weak_cut1 (by (first | ((simp only [envIn, tabIn, envLt, tabLt, AV.lt, ruW, ASt.get, aget, ↓reduceIte, Nat.reduceLT, Nat.reduceEqDiff, eq_self]) <;> (repeat' apply And.intro) <;> first | (rw [wrapK (by omega)]; done) | (simp; done) | omega) | fail))) ⟨k + 1, n, by omega, hL.symm, by omega, by omega, rfl⟩ (by simp only [slotN, ruW, ASt.get, aget, ↓reduceIte, Nat.reduceLT, Nat.reduceEqDiff, eq_self]; omega)
      · obtain rfl : w = 0 := by rw [← hw, wasN, if_neg (fun h => hkc h.1)]
        (repeat' (first | simp (maxSteps := 5000000) (implicitDefEqProofs := false) only [ruA, ruB, aEv, aTake, aLoad, aField, aIndex, aLen, aBin, bin2, ASt.get, aget, ASt.put, aStore, aBox, aCells, oneC, oneCL, Value.cells, Value.oneCell', ↓reduceIte, reduceCtorEq, Nat.reduceLT, Nat.reduceEqDiff, Nat.reduceAdd, eq_self, ne_eq, tyE_26, tyA_56, tyS_56, tyZ_56, tyE_33, tyA_3, tyS_3, tyF_56_4, row_at, hlt, hkc, hev, d2] | (with_reducible refine aIf_split (fun _ => ?_) (fun _ => ?_)) | (with_reducible refine aSel_split (fun _ => ?_) (fun _ => ?_)) | (with_reducible refine aGd_split (fun _ => ?_) (fun _ => ?_)) | (with_reducible refine aDraw_quiet (by kernel_rfl) ?_)))
        exact roundI (weak_cut1 (by (first | ((simp only [envIn, tabIn, envLt, tabLt, AV.lt, ruW, ASt.get, aget, ↓reduceIte, Nat.reduceLT, Nat.reduceEqDiff, eq_self]) <;> (repeat' apply And.intro) <;> first | (rw [wrapK (by omega)]; done) | (simp; done) | omega) | fail))) ⟨k + 1, n, by omega, hL.symm, by omega, by omega, rfl⟩ (by simp only [slotN, ruW, ASt.get, aget, ↓reduceIte, Nat.reduceLT, Nat.reduceEqDiff, eq_self]; omega)
  · obtain rfl : k = m.events.length := by omega
    (repeat' (first | simp (maxSteps := 5000000) (implicitDefEqProofs := false) only [ruA, ruB, aEv, aBin, bin2, ASt.get, aget, ASt.put, aResL, aOne, ↓reduceIte, Nat.reduceLT, Nat.reduceEqDiff, eq_self, hlt] | (with_reducible refine aIf_split (fun _ => ?_) (fun _ => ?_)) | (with_reducible refine aSel_split (fun _ => ?_) (fun _ => ?_)) | (with_reducible refine aGd_split (fun _ => ?_) (fun _ => ?_)) | (with_reducible refine aDraw_quiet (by kernel_rfl) ?_)))
    exact hn
set_option maxRecDepth 100000 in
set_option maxHeartbeats 32000000 in
theorem nodeOfC_A (m : Mod) (c : List Int) (s : St) (he : m.events.length ≤ 10) (hm : ∀ e ∈ m.events, e.times ≤ 10 ∧ e.sets.length ≤ 10) (h1 : s.vals.length ≤ 31) (h2 : c.length ≤ 400) (hv : ∀ x ∈ s.vals, ok64 x) (hc : ∀ x ∈ c, ok64 x) (h3 : s.did.length ≤ 1000000) (h4 : s.cnt.length ≤ 1000000) : ADet Tryz.prog 9 [.agg (eMod m), sI c, .agg (eSt s)] ⟨.agg (eNd (nodeM m c s)), [], 0⟩ := by
  have hL := stateLeft_A m s.cnt he hm h4
  have hO := zoneOfC_A s.vals c (leftN m s.cnt m.events.length) h1 h2 hv hc
  unfold nodeM
  obtain ⟨z, hz⟩ : ∃ z, zoneM s.vals c (leftN m s.cnt m.events.length) = z := ⟨_, rfl⟩
  rw [hz] at hO ⊢
  have hok : (⟨.agg (eNd ⟨z, s.opn, s.don, s.did, s.cnt⟩), [], 0⟩ : Res).Ok := ⟨fun id o h => (by cases h), by simp [AV.lt, AV.ltL]⟩
  refine adet_of_code mixedT Tryz.func9 rfl (by decide) Tryz.ntmps9 Tryz.results9 rfl (hok) ?_
  (repeat' (first | simp (maxSteps := 5000000) (implicitDefEqProofs := false) only [ruA, ruB, aEv, ASt.get, aget, ASt.put, aBox, aCells, oneC, oneCL, Value.cells, Value.oneCell', envOf, ↓reduceIte, Nat.reduceLT, Nat.reduceEqDiff, Nat.reduceAdd, eq_self, tyZ_43] | (with_reducible refine aIf_split (fun _ => ?_) (fun _ => ?_)) | (with_reducible refine aSel_split (fun _ => ?_) (fun _ => ?_)) | (with_reducible refine aGd_split (fun _ => ?_) (fun _ => ?_))))
  refine aDraw_held [2] [0, 1, 2, 3, 4, 5, 8, 9, 10, 11, 12, 13, 15, 16] (.exec 6 (.exec 7 (.exec 14 (.exec 17 (.take 18 (.exec 19 .done)))))) (by kernel_rfl) (by simp [ATab.get_cons]) ?_
  (repeat' (first | simp (maxSteps := 5000000) (implicitDefEqProofs := false) only [ruA, ruB, aEv, aTake, aLoad, aField, ASt.get, aget, ASt.put, aBuild, aFill, oneParts, aCells, oneC, oneCL, Value.cells, Value.oneCell', aResL, aOne, ↓reduceIte, reduceCtorEq, Nat.reduceLT, Nat.reduceEqDiff, Nat.reduceAdd, Nat.reduceLeDiff, eq_self, aExecS, aStoreB, aTakes, aTakeE, aFrom, AV.shift, AV.shiftL, aMay, tyA_43, tyS_43, tyF_35_0, tyA_23, tyS_23, tyA_32, tyS_32, tyF_35_4, tyA_33, tyS_33, tyF_35_1, tyA_3, tyS_3, tyF_35_2, tyF_35_3, tyB_43] | (with_reducible refine aIf_split (fun _ => ?_) (fun _ => ?_)) | (with_reducible refine aSel_split (fun _ => ?_) (fun _ => ?_)) | (with_reducible refine aGd_split (fun _ => ?_) (fun _ => ?_)) | (with_reducible refine aDraw_quiet (by kernel_rfl) ?_) | ((with_reducible apply callV); exact (hL)) | ((with_reducible apply callD); exact (hL)) | ((with_reducible apply callT); exact (hO); exact (.inl (by simp [roL, roA]))) | ((with_reducible apply callT (g := 26)); exact (cloneI_A s.did h3); exact (.inl (by simp [roL, roA]))) | ((with_reducible apply callT (g := 26)); exact (cloneI_A s.cnt h4); exact (.inl (by simp [roL, roA]))) | (with_reducible apply And.intro)))
  all_goals exact gives_tree (by first | rfl | simp [AV.ren, AV.renL])
/-- lists and numbers of a state in which a case begins -/
theorem begin_st (m : Mod) : (beginM m).vals = m.inits ∧ (beginM m).did.length = m.events.length ∧ (beginM m).cnt.length = m.events.length := by
  have h := fold_vals m (-1) (m.order.take m.order.length) (startS m)
  unfold beginM passM
  rw [h.1, h.2.1, h.2.2]
  simp [startS]
set_option maxRecDepth 100000 in
set_option maxHeartbeats 32000000 in
theorem nodeBegin_A (m : Mod) (c : List Int) (hf : Fit m) (hco : condOk m) (hp : ∀ p ∈ m.stages, ok64 p.2) (hi : ∀ x ∈ m.inits, ok64 x) (hm : ∀ e ∈ m.events, e.times ≤ 10 ∧ e.sets.length ≤ 10) (h2 : c.length ≤ 400) (hc : ∀ x ∈ c, ok64 x) : ADet Tryz.prog 12 [.agg (eMod m), sI c] ⟨.agg (eNd (nodeM m c (beginM m))), [], 0⟩ := by
  obtain ⟨-, -, -, hel, -, -, -, -, -, hil⟩ := id hf.sizes
  obtain ⟨e1, e2, e3⟩ := begin_st m
  have hB := begin_A m hf hco hp hi
  have hO := nodeOfC_A m c (beginM m) hel hm (by rw [e1]; omega) h2 (by rw [e1]; exact hi) hc (by omega) (by omega)
  have hok : (⟨.agg (eNd (nodeM m c (beginM m))), [], 0⟩ : Res).Ok := ⟨fun id o h => (by cases h), by simp [AV.lt, AV.ltL]⟩
  generalize nodeM m c (beginM m) = nd at *
  refine adet_of_code mixedT Tryz.func12 rfl (by decide) Tryz.ntmps12 Tryz.results12 rfl (hok) ?_
  (repeat' (first | simp (maxSteps := 5000000) (implicitDefEqProofs := false) only [ruA, ruB, aEv, ASt.get, aget, ASt.put, aBox, aCells, oneC, oneCL, Value.cells, Value.oneCell', envOf, ↓reduceIte, Nat.reduceLT, Nat.reduceAdd, eq_self, tyZ_43] | (with_reducible refine aIf_split (fun _ => ?_) (fun _ => ?_)) | (with_reducible refine aSel_split (fun _ => ?_) (fun _ => ?_)) | (with_reducible refine aGd_split (fun _ => ?_) (fun _ => ?_))))
  refine aDraw_held [1] [0, 1, 2] (.exec 3 (.exec 4 (.exec 5 .done))) (by kernel_rfl) (by simp [ATab.get_cons]) ?_
  (repeat' (first | simp (maxSteps := 5000000) (implicitDefEqProofs := false) only [ruA, ruB, aEv, aTake, aLoad, ASt.get, aget, ASt.put, aCells, oneC, oneCL, Value.oneCell', aResL, aOne, ↓reduceIte, reduceCtorEq, Nat.reduceLT, Nat.reduceEqDiff, Nat.reduceAdd, Nat.reduceLeDiff, eq_self, aExecS, aStoreB, aTakes, aFrom, AV.shift, AV.shiftL, aMay, tyA_43, tyS_43, tyA_32, tyS_32] | (with_reducible refine aIf_split (fun _ => ?_) (fun _ => ?_)) | (with_reducible refine aSel_split (fun _ => ?_) (fun _ => ?_)) | (with_reducible refine aGd_split (fun _ => ?_) (fun _ => ?_)) | (with_reducible refine aDraw_quiet (by kernel_rfl) ?_) | ((with_reducible apply callT); exact (hB); exact (.inl (by simp [roL, roA, treeL, treeC]))) | ((with_reducible apply callT); exact (hO); exact (.inl (by simp [roL, roA, treeL, treeC]))) | (with_reducible apply And.intro)))
  all_goals exact gives_tree (by first | rfl | simp [AV.ren, AV.renL])
end
section
open Go.RowKit
set_option maxRecDepth 100000 in
set_option maxHeartbeats 32000000 in
theorem nodeAt_A (m : Mod) (n : Nd) (he : m.events.length ≤ 10) (hm : ∀ e ∈ m.events, e.times ≤ 10 ∧ e.sets.length ≤ 10) (h4 : n.cnt.length ≤ 1000000) : ADet Tryz.prog 42 [.agg (eMod m), .agg (eNd n)] ⟨.agg (eNd n ++ [eI (leftN m n.cnt m.events.length)]), [], 0⟩ := by
  have hL := stateLeft_A m n.cnt he hm h4
  have hok : (⟨.agg (eNd n ++ [eI (leftN m n.cnt m.events.length)]), [], 0⟩ : Res).Ok := ⟨fun id o h => (by cases h), by simp [AV.lt, AV.ltL]⟩
  generalize leftN m n.cnt m.events.length = L at *
  refine adet_of_code mixedT Tryz.func42 rfl (by decide) Tryz.ntmps42 Tryz.results42 rfl (hok) ?_
  (repeat' (first | simp (maxSteps := 5000000) (implicitDefEqProofs := false) only [ruA, ruB, aEv, ASt.get, aget, ASt.put, aBox, aCells, oneC, oneCL, Value.cells, Value.oneCell', envOf, ↓reduceIte, Nat.reduceLT, Nat.reduceEqDiff, Nat.reduceAdd, eq_self, tyZ_76] | (with_reducible refine aIf_split (fun _ => ?_) (fun _ => ?_)) | (with_reducible refine aSel_split (fun _ => ?_) (fun _ => ?_)) | (with_reducible refine aGd_split (fun _ => ?_) (fun _ => ?_))))
  refine aDraw_held [2] [0, 1, 2, 3] (.exec 4 (.take 5 (.exec 6 .done))) (by kernel_rfl) (by simp [ATab.get_cons]) ?_
  (repeat' (first | simp (maxSteps := 5000000) (implicitDefEqProofs := false) only [ruA, ruB, aEv, aTake, aLoad, aField, ASt.get, aget, ASt.put, aBuild, aFill, oneParts, aCells, oneC, oneCL, Value.cells, Value.oneCell', aResL, aOne, ↓reduceIte, reduceCtorEq, Nat.reduceLT, Nat.reduceEqDiff, Nat.reduceAdd, Nat.reduceLeDiff, eq_self, aExecS, aStoreB, aTakes, aTakeE, aFrom, aMay, tyA_76, tyS_76, tyA_43, tyS_43, tyA_32, tyS_32, tyF_43_4, tyA_33, tyS_33, tyB_76] | (with_reducible refine aIf_split (fun _ => ?_) (fun _ => ?_)) | (with_reducible refine aSel_split (fun _ => ?_) (fun _ => ?_)) | (with_reducible refine aGd_split (fun _ => ?_) (fun _ => ?_)) | (with_reducible refine aDraw_quiet (by kernel_rfl) ?_) | ((with_reducible apply callV); exact (hL)) | ((with_reducible apply callD); exact (hL)) | (with_reducible apply And.intro)))
  all_goals exact gives_tree (by first | rfl | simp [AV.ren, AV.renL])
def statZ (m : Mod) (n : Nd) : St := ⟨List.replicate m.attrs.length 0, n.opn, n.don, n.did, n.cnt⟩
def NodeP (m : Mod) (c : List Int) (n : Nd) : Prop := chkS m (statZ m n) = true ∧ CheckP n.z (m.attrs.length : Int) c (leftN m n.cnt m.events.length)
set_option maxRecDepth 100000 in
set_option maxHeartbeats 32000000 in
theorem nodeCheck_A (m : Mod) (c : List Int) (n : Nd) (he : m.events.length ≤ 10) (hm : ∀ e ∈ m.events, e.times ≤ 10 ∧ e.sets.length ≤ 10) (ha : m.attrs.length ≤ 1000000) (h1 : n.z.cls.length ≤ 1000000) (h2 : n.z.gaps.length ≤ 1000000) (h3 : c.length ≤ 1000000) (hc : ∀ x ∈ c, ok64 x) (h5 : n.did.length ≤ 1000000) (h4 : n.cnt.length ≤ 1000000) : ARel Tryz.prog 19 [.agg (eMod m), sI c, .agg (eNd n)] fun R => ∃ b, R = val (.bool b) ∧ (b = true ↔ NodeP m c n) := by
  refine arel_of_code mixedT Tryz.func19 rfl (by decide) Tryz.ntmps19 Tryz.results19 rfl ?_
  have hA := nodeAt_A m n he hm h4
  have hSt := status_A (n.z.cls.map eCls) (n.z.gaps.map fun n => [eI n]) n.opn n.don n.did n.cnt h5 h4
  have hS := checkS_A m (statZ m n) (by omega)
  have hrep : List.replicate m.attrs.length [eI 0] = (List.replicate m.attrs.length 0).map fun n => [eI n] := by simp
  obtain ⟨t, ht, hZ⟩ := adet_iff (zoneCheck_A n.z (m.attrs.length : Int) c (leftN m n.cnt m.events.length) h1 h2 h3 hc)
  unfold NodeP
  rw [← ht]
  clear ht
  generalize leftN m n.cnt m.events.length = L at *
  have hx : ∀ r, r = chkS m (statZ m n) → True := fun _ _ => trivial
  cases hb : chkS m (statZ m n) with
  | true =>
    rw [hb] at hS
    (repeat' (first | simp (maxSteps := 5000000) (implicitDefEqProofs := false) only [ruA, ruB, aEv, aTake, aLoad, aField, aLen, ASt.get, aget, ASt.put, aStore, aBox, aMake, aCells, oneC, oneCL, Value.cells, Value.oneCell', envOf, ↓reduceIte, reduceCtorEq, Nat.reduceLT, Nat.reduceEqDiff, Nat.reduceAdd, Nat.reduceLeDiff, eq_self, ne_eq, AV.shift, AV.shiftL, tyA_32, tyS_32, tyA_43, tyS_43, tyZ_76, tyS_76, tyF_76_0, tyZ_35, tyS_35, tyF_32_0, tyA_22, tyS_22, tyE_22, tyR_23, tyZ_2, tyF_35_0, tyS_23, tyA_35] | (with_reducible refine aIf_split (fun _ => ?_) (fun _ => ?_)) | (with_reducible refine aSel_split (fun _ => ?_) (fun _ => ?_)) | (with_reducible refine aGd_split (fun _ => ?_) (fun _ => ?_)) | (with_reducible refine aDraw_quiet (by kernel_rfl) ?_) | ((with_reducible apply callT); exact (hA); exact (.inl (by simp [roL, roA, treeL, treeC]))) | ((with_reducible apply callT); exact (hSt); exact (.inl (by simp [roL, roA, treeL, treeC]))) | ((with_reducible apply callV); exact (hS)) | ((with_reducible apply callD); exact (hS)) | ((with_reducible apply callV); exact (hZ)) | ((with_reducible apply callD); exact (hZ))))
    refine ⟨⟨by omega, by omega⟩, ?_⟩
    (repeat' (first | simp (maxSteps := 5000000) (implicitDefEqProofs := false) only [ruA, ruB, aEv, aTake, aLoad, aField, aLen, ASt.get, aget, ASt.put, aResL, aOne, ↓reduceIte, reduceCtorEq, Nat.reduceLT, Nat.reduceEqDiff, Nat.reduceAdd, Nat.reduceLeDiff, eq_self, ne_eq, tyF_76_0, tyF_32_0, tyA_22, tyS_22, tyE_22, tyF_43_0, tyA_41, tyS_41, tyF_76_1, tyA_3, tyS_3, hrep] | (with_reducible refine aIf_split (fun _ => ?_) (fun _ => ?_)) | (with_reducible refine aSel_split (fun _ => ?_) (fun _ => ?_)) | (with_reducible refine aGd_split (fun _ => ?_) (fun _ => ?_)) | (with_reducible refine aDraw_quiet (by kernel_rfl) ?_) | ((with_reducible apply callV); exact (hS)) | ((with_reducible apply callD); exact (hS)) | ((with_reducible apply callV); exact (hZ)) | ((with_reducible apply callD); exact (hZ))))
    all_goals exact retV ⟨t, rfl, by simp⟩
  | false =>
    rw [hb] at hS
    (repeat' (first | simp (maxSteps := 5000000) (implicitDefEqProofs := false) only [ruA, ruB, aEv, aTake, aLoad, aField, aLen, ASt.get, aget, ASt.put, aStore, aBox, aMake, aCells, oneC, oneCL, Value.cells, Value.oneCell', envOf, ↓reduceIte, reduceCtorEq, Nat.reduceLT, Nat.reduceEqDiff, Nat.reduceAdd, Nat.reduceLeDiff, eq_self, ne_eq, AV.shift, AV.shiftL, tyA_32, tyS_32, tyA_43, tyS_43, tyZ_76, tyS_76, tyF_76_0, tyZ_35, tyS_35, tyF_32_0, tyA_22, tyS_22, tyE_22, tyR_23, tyZ_2, tyF_35_0, tyS_23, tyA_35] | (with_reducible refine aIf_split (fun _ => ?_) (fun _ => ?_)) | (with_reducible refine aSel_split (fun _ => ?_) (fun _ => ?_)) | (with_reducible refine aGd_split (fun _ => ?_) (fun _ => ?_)) | (with_reducible refine aDraw_quiet (by kernel_rfl) ?_) | ((with_reducible apply callT); exact (hA); exact (.inl (by simp [roL, roA, treeL, treeC]))) | ((with_reducible apply callT); exact (hSt); exact (.inl (by simp [roL, roA, treeL, treeC]))) | ((with_reducible apply callV); exact (hS)) | ((with_reducible apply callD); exact (hS)) | ((with_reducible apply callV); exact (hZ)) | ((with_reducible apply callD); exact (hZ))))
    refine ⟨⟨by omega, by omega⟩, ?_⟩
    (repeat' (first | simp (maxSteps := 5000000) (implicitDefEqProofs := false) only [ruA, ruB, aEv, ASt.get, aget, ASt.put, aResL, aOne, ↓reduceIte, Nat.reduceLT, Nat.reduceEqDiff, eq_self, hrep] | (with_reducible refine aIf_split (fun _ => ?_) (fun _ => ?_)) | (with_reducible refine aSel_split (fun _ => ?_) (fun _ => ?_)) | (with_reducible refine aGd_split (fun _ => ?_) (fun _ => ?_)) | (with_reducible refine aDraw_quiet (by kernel_rfl) ?_) | ((with_reducible apply callV); exact (hS)) | ((with_reducible apply callD); exact (hS)) | ((with_reducible apply callV); exact (hZ)) | ((with_reducible apply callD); exact (hZ))))
    all_goals exact retV ⟨false, rfl, by simp⟩
/-- node.Check of the node of numbers -/
theorem nodeP_zone (m : Mod) (c : List Int) (n : Nd) (vals : List Int) (hv : vals.length ≤ 31) (ha : vals.length = m.attrs.length) (hz : n.z = zoneM vals c (leftN m n.cnt m.events.length)) (hs : chkS m (statZ m n) = true) : NodeP m c n := by
  refine ⟨hs, ?_⟩
  rw [hz, ← ha]
  exact check_zone vals c _ hv
def exM27 : Mod := ⟨[⟨#[97]⟩], [2], [], [], [], [], [], [], [], []⟩
def ex27 : Nd := ⟨⟨[⟨1, -1⟩, ⟨0, 0⟩], [0]⟩, 0, 0, [], []⟩
theorem ex27_begin : beginM exM27 = ⟨[2], 0, 0, [], []⟩ := rfl
theorem ex27_zone : zoneM [2] [3] 0 = ex27.z := by
  have h : (zoneM [2] [3] 0).cls.map (fun c => (c.attrs, c.const)) = ex27.z.cls.map (fun c => (c.attrs, c.const)) := by kernel_rfl
  have h2 : (zoneM [2] [3] 0).gaps = ex27.z.gaps := by kernel_rfl
  refine zn_ext ?_ h2
  have inj : ∀ l k : List Cls, l.map (fun c => (c.attrs, c.const)) = k.map (fun c => (c.attrs, c.const)) → l = k := fun l k h => by
    refine (List.map_inj_right fun x y h => ?_).1 h
    cases x
    cases y
    simpa using h
  exact inj _ _ h
theorem ex27_node : nodeM exM27 [3] (beginM exM27) = ex27 := by
  rw [ex27_begin]
  show (⟨zoneM [2] [3] 0, 0, 0, [], []⟩ : Nd) = ex27
  rw [ex27_zone]
  rfl
theorem ex27_chk : chkS exM27 (statZ exM27 ex27) = true := by kernel_rfl
theorem ex27_P : NodeP exM27 [3] ex27 := nodeP_zone exM27 [3] ex27 [2] (by simp) rfl ex27_zone.symm ex27_chk
theorem ex27_fit : Fit exM27 := ⟨by simp [greatS, exM27], by simp [exM27], by simp [exM27], by simp [exM27]⟩
set_option maxRecDepth 100000 in
set_option maxHeartbeats 8000000 in
theorem awake27_A : ADet Tryz.prog 8 [] (val (.bool true)) := by
  refine adet_of_code mixedT Tryz.func8 rfl (by decide) Tryz.ntmps8 Tryz.results8 rfl (val_ok _) ?_
  have hB := nodeBegin_A exM27 [3] ex27_fit (by simp [condOk, exM27]) (by simp [exM27]) (by simp [exM27, ok64]) (by simp [exM27]) (by simp) (by simp [ok64])
  rw [ex27_node] at hB
  have hC : ADet Tryz.prog 19 [.agg (eMod exM27), sI [3], .agg (eNd ex27)] (val (.bool true)) := (nodeCheck_A exM27 [3] ex27 (by simp [exM27]) (by simp [exM27]) (by simp [exM27]) (by simp [ex27]) (by simp [ex27]) (by simp) (by simp [ok64]) (by simp [ex27]) (by simp [ex27])).mono fun R ⟨b, h1, h2⟩ => by rw [h1, h2.2 ex27_P]
  have hB2 := hB.fits (args := [.agg [.sl 1 [[eS ⟨#[97]⟩]], .sl 1 [[eI 2]], .c (.slice none 0 0), .c (.slice none 0 0), .c (.slice none 0 0), .c (.slice none 0 0), .c (.slice none 0 0), .c (.slice none 0 0), .c (.slice none 0 0), .c (.slice none 0 0)], .sl 1 [[eI 3]]]) ⟨.agg ⟨.refl _, .refl _, .nil 1, .nil 2, .nil 2, .nil 5, .nil 3, .nil 5, .nil 2, .nil 2, trivial⟩, .one (.refl _), trivial⟩
  have hC2 := hC.fits (args := [.agg [.sl 1 [[eS ⟨#[97]⟩]], .sl 1 [[eI 2]], .c (.slice none 0 0), .c (.slice none 0 0), .c (.slice none 0 0), .c (.slice none 0 0), .c (.slice none 0 0), .c (.slice none 0 0), .c (.slice none 0 0), .c (.slice none 0 0)], .sl 1 [[eI 3]], .agg (eNd ex27)]) ⟨.agg ⟨.refl _, .refl _, .nil 1, .nil 2, .nil 2, .nil 5, .nil 3, .nil 5, .nil 2, .nil 2, trivial⟩, .one (.refl _), .one (.refl _), trivial⟩
  (repeat' (first | simp (maxSteps := 5000000) (implicitDefEqProofs := false) only [ruA, ruB, aEv, aTake, aLoad, ASt.get, aget, ASt.put, aStore, aBox, aBuildSlice, aBuild, aFill, oneParts, aCells, oneC, oneCL, treeC, treeL, aLit, Value.cells, Value.oneCell', envOf, ↓reduceIte, reduceCtorEq, Nat.reduceLT, Nat.reduceEqDiff, Nat.reduceAdd, Nat.reduceMul, Nat.reduceLeDiff, eq_self, aBuildSlice1, frzs, ownIds, tyR_22, tyR_23, tyB_32, tyZ_32, tyS_32, tyA_32] | (with_reducible refine aIf_split (fun _ => ?_) (fun _ => ?_)) | (with_reducible refine aSel_split (fun _ => ?_) (fun _ => ?_)) | (with_reducible refine aGd_split (fun _ => ?_) (fun _ => ?_))))
  repeat (refine ⟨rfl, ?_⟩)
  refine callZ [0, 1, 3] (R := ⟨.agg (eNd ex27), [], 0⟩) ?_ ?_ ?_
  · simp (maxSteps := 5000000) (implicitDefEqProofs := false) only [ruB, ↓reduceIte, reduceCtorEq, Nat.reduceEqDiff, eq_self, dref, dref1, frzs, frz1, AV.frz, AV.frzL, frzEnv, frzAVs, frzAV, frzTab, AObj.frz]
    exact hB2
  · simp (maxSteps := 5000000) (implicitDefEqProofs := false) only [ruB, ↓reduceIte, reduceCtorEq, Nat.reduceEqDiff, eq_self, frz1, AV.frz, AV.frzL, frzEnv, frzAVs, frzAV, frzTab, AObj.frz]
    left
    simp [roL, roA, treeL, treeC]
  · have b2 : (((2 : Nat) : Int) == 2) = true := by decide
    have b1 : ((1 : Int) == 1) = true := by decide
    have b0 : (0 : Int) < ((2 : Nat) : Int) := by decide
    have e0 : ([[eI 1, eI (-1)], [eI 0, eI 0]] : List (List AV))[Int.toNat 0]?.getD [] = [eI 1, eI (-1)] := rfl
    have hsh : ∀ k, ATab.shift k ([] : ATab) = [] := fun _ => rfl
    (repeat' (first | simp (maxSteps := 5000000) (implicitDefEqProofs := false) only [ruA, ruB, aEv, aTake, aLoad, aField, aIndex, aLen, aBin, bin2, ASt.get, aget, ASt.put, aStore, aBox, aBuildSlice, aCells, oneC, oneCL, treeC, treeL, aLit, Value.cells, Value.oneCell', ↓reduceIte, reduceCtorEq, Nat.reduceLT, Nat.reduceEqDiff, Nat.reduceAdd, Nat.reduceMul, Nat.reduceLeDiff, eq_self, ne_eq, aBuildSlice1, frzs, frz1, ownIds, AV.frz, AV.frzL, frzEnv, AV.shift, AV.shiftL, frzTab, AObj.frz, tyR_23, tyS_32, tyA_32, tyZ_43, tyS_43, tyF_43_0, tyF_41_0, tyA_39, tyS_39, tyE_39, tyF_58_0, tyA_3, tyS_3, tyA_43, ex27, eCls, b2, b1, b0, e0, hsh] | (with_reducible refine aIf_split (fun _ => ?_) (fun _ => ?_)) | (with_reducible refine aSel_split (fun _ => ?_) (fun _ => ?_)) | (with_reducible refine aGd_split (fun _ => ?_) (fun _ => ?_)) | (with_reducible refine aDraw_quiet (by kernel_rfl) ?_) | (with_reducible apply And.intro)))
    all_goals first
      | rfl
      | skip
    refine callV (v := .bool true) (by simp (maxSteps := 5000000) (implicitDefEqProofs := false) only [ruB, ↓reduceIte, eq_self, dref, dref1]; exact hC2) ?_
    (repeat' (first | simp (maxSteps := 5000000) (implicitDefEqProofs := false) only [ruA, aEv, ASt.get, aget, ASt.put, aResL, aOne, ↓reduceIte, Nat.reduceLT, Nat.reduceEqDiff, eq_self] | (with_reducible refine aIf_split (fun _ => ?_) (fun _ => ?_)) | (with_reducible refine aSel_split (fun _ => ?_) (fun _ => ?_)) | (with_reducible refine aGd_split (fun _ => ?_) (fun _ => ?_)) | (with_reducible refine aDraw_quiet (by kernel_rfl) ?_)))
theorem nodeM_len (m : Mod) (c : List Int) (s : St) (hv : s.vals.length ≤ 31) (hc : c.length ≤ 31) : (nodeM m c s).z.cls.length ≤ 1000000 ∧ (nodeM m c s).z.gaps.length ≤ 1000000 := zoneM_len s.vals c _ hv hc
end
section
open Go.RowKit
set_option maxRecDepth 100000 in
theorem all_A (q : Nat) (hq : q ≤ 1000000) : ARel Tryz.prog 60 [eI (q : Int)] fun R => ∃ v, R = val (.int .i64 v) := by
  refine arel_of_code mixedT Tryz.func60 rfl (by decide) Tryz.ntmps60 Tryz.results60 rfl ?_
  (repeat' (first | simp (maxSteps := 5000000) (implicitDefEqProofs := false) only [ruA, aEv, ASt.put, envOf] | (with_reducible refine aIf_split (fun _ => ?_) (fun _ => ?_)) | (with_reducible refine aSel_split (fun _ => ?_) (fun _ => ?_)) | (with_reducible refine aGd_split (fun _ => ?_) (fun _ => ?_))))
  refine aLoop_of (fun st => ∃ (k : Nat) (v : Int), k ≤ q ∧ st = ⟨14, [(0, eI (q : Int)), (3, eI v), (4, eI (k : Int))], [], 0⟩) (fun st => q - slotN st 4) ⟨_, (weak_cut1 (by (first | ((simp only [envIn, tabIn, envLt, tabLt, AV.lt, ruW, ASt.get, aget, ↓reduceIte, reduceCtorEq, Nat.reduceLT, Nat.reduceEqDiff, eq_self]) <;> (repeat' apply And.intro) <;> first | (rw [wrapK (by omega)]; done) | (simp; done) | omega) | fail))), 0, 0, Nat.zero_le _, rfl⟩ ?_
  rintro _ ⟨k, v, hk, rfl⟩
  by_cases hlt : k < q
  · (repeat' (first | simp (maxSteps := 5000000) (implicitDefEqProofs := false) only [ruA, ruB, aEv, aBin, bin2, ASt.get, aget, ASt.put, ↓reduceIte, reduceCtorEq, Nat.reduceLT, Nat.reduceEqDiff, eq_self, hlt] | (with_reducible refine aIf_split (fun _ => ?_) (fun _ => ?_)) | (with_reducible refine aSel_split (fun _ => ?_) (fun _ => ?_)) | (with_reducible refine aGd_split (fun _ => ?_) (fun _ => ?_))))
    exact roundI (weak_cut1 (by (first | ((simp only [envIn, tabIn, envLt, tabLt, AV.lt, ruW, ASt.get, aget, ↓reduceIte, reduceCtorEq, Nat.reduceLT, Nat.reduceEqDiff, eq_self]) <;> (repeat' apply And.intro) <;> first | (rw [wrapK (by omega)]; done) | (simp; done) | omega) | fail))) ⟨k + 1, IntKind.i64.wrap (IntKind.i64.wrap (2 * v) + 1), by omega, rfl⟩ (by simp only [slotN, ruW, ASt.get, aget, ↓reduceIte, Nat.reduceLT, eq_self]; omega)
  · (repeat' (first | simp (maxSteps := 5000000) (implicitDefEqProofs := false) only [ruA, ruB, aEv, aBin, bin2, ASt.get, aget, ASt.put, aResL, aOne, ↓reduceIte, reduceCtorEq, Nat.reduceLT, Nat.reduceEqDiff, eq_self, hlt] | (with_reducible refine aIf_split (fun _ => ?_) (fun _ => ?_)) | (with_reducible refine aSel_split (fun _ => ?_) (fun _ => ?_)) | (with_reducible refine aGd_split (fun _ => ?_) (fun _ => ?_))))
    exact retV ⟨_, rfl⟩
set_option maxRecDepth 100000 in
theorem arity_A (n : Int) : ARel Tryz.prog 132 [eI n] fun R => ∃ v, R = val (.int .i64 v) := by
  refine arel_of_code mixedT Tryz.func132 rfl (by decide) Tryz.ntmps132 Tryz.results132 rfl ?_
  (repeat' (first | simp (maxSteps := 5000000) (implicitDefEqProofs := false) only [ruA, ruB, aEv, aBin, bin2, ASt.get, aget, ASt.put, envOf, aResL, aOne, ↓reduceIte, reduceCtorEq, Nat.reduceLT, Nat.reduceEqDiff, eq_self] | (with_reducible refine aIf_split (fun _ => ?_) (fun _ => ?_)) | (with_reducible refine aSel_split (fun _ => ?_) (fun _ => ?_)) | (with_reducible refine aGd_split (fun _ => ?_) (fun _ => ?_))))
  all_goals with_reducible exact retV ⟨_, rfl⟩
abbrev eIt (n : Int) : List AV := [eI n, eS ByteArray.empty, eI 0, eS ByteArray.empty, eI 0, eS ByteArray.empty, eS ByteArray.empty, eI 0, eI 0]
set_option maxRecDepth 100000 in
theorem beginC_A (l : List Int) (q : Nat) (hq : q ≤ l.length) (hl : l.length ≤ 1000000) : ARel Tryz.prog 116 [.sl 9 (l.map eIt), eI ((q : Int) - 1)] fun R => ∃ v, R = val (.int .i64 v) := by
  refine arel_of_code mixedT Tryz.func116 rfl (by decide) Tryz.ntmps116 Tryz.results116 rfl ?_
  (repeat' (first | simp (maxSteps := 5000000) (implicitDefEqProofs := false) only [ruA, ruB, aEv, ASt.get, aget, ASt.put, envOf, ↓reduceIte, Nat.reduceLT, Nat.reduceEqDiff, eq_self] | (with_reducible refine aIf_split (fun _ => ?_) (fun _ => ?_)) | (with_reducible refine aSel_split (fun _ => ?_) (fun _ => ?_)) | (with_reducible refine aGd_split (fun _ => ?_) (fun _ => ?_))))
  refine aLoop_of (fun st => ∃ (k : Nat) (v : Int), k ≤ q ∧ st = ⟨28, [(0, .sl 9 (l.map eIt)), (5, eI v), (6, eI ((k : Int) - 1))], [], 0⟩) (fun st => (match st.get 6 with | .c (.int _ n) => (n + 1).toNat | _ => 0)) ⟨_, (weak_cut1 (by (first | ((simp only [envIn, tabIn, envLt, tabLt, AV.lt, ruW, ASt.get, aget, ↓reduceIte, reduceCtorEq, Nat.reduceLT, Nat.reduceEqDiff, eq_self]) <;> (repeat' apply And.intro) <;> first | (rw [wrapK (by omega)]; done) | (simp; done) | omega) | fail))), q, 1, Nat.le_refl _, rfl⟩ ?_
  rintro _ ⟨k, v, hk, rfl⟩
  cases k with
  | zero =>
    have e0 : decide ((0 : Int) ≤ ((0 : Nat) : Int) - 1) = false := by decide
    (repeat' (first | simp (maxSteps := 5000000) (implicitDefEqProofs := false) only [ruA, ruB, aEv, aBin, bin2, ASt.get, aget, ASt.put, aResL, aOne, ↓reduceIte, Nat.reduceLT, eq_self, e0] | (with_reducible refine aIf_split (fun _ => ?_) (fun _ => ?_)) | (with_reducible refine aSel_split (fun _ => ?_) (fun _ => ?_)) | (with_reducible refine aGd_split (fun _ => ?_) (fun _ => ?_))))
    exact retV ⟨_, rfl⟩
  | succ j =>
    have ej : ((j + 1 : Nat) : Int) - 1 = (j : Int) := by omega
    have hj : j < l.length := by omega
    simp only [ej]
    (repeat' (first | simp (maxSteps := 5000000) (implicitDefEqProofs := false) only [ruA, ruB, aEv, aTake, aLoad, aField, aIndex, aBin, bin2, ASt.get, aget, ASt.put, ↓reduceIte, reduceCtorEq, Nat.reduceLT, Nat.reduceEqDiff, Nat.reduceAdd, Nat.reduceLeDiff, eq_self, tyE_132, tyF_142_0, tyA_3, tyS_3, hj, row_at] | (with_reducible refine aIf_split (fun _ => ?_) (fun _ => ?_)) | (with_reducible refine aSel_split (fun _ => ?_) (fun _ => ?_)) | (with_reducible refine aGd_split (fun _ => ?_) (fun _ => ?_))))
    refine callPI (arity_A _) fun n => ?_
    (repeat' (first | simp (maxSteps := 5000000) (implicitDefEqProofs := false) only [ruA, ruB, aEv, aBin, bin2, ASt.get, aget, ASt.put, aResL, aOne, ↓reduceIte, Nat.reduceLT, Nat.reduceEqDiff, eq_self] | (with_reducible refine aIf_split (fun _ => ?_) (fun _ => ?_)) | (with_reducible refine aSel_split (fun _ => ?_) (fun _ => ?_)) | (with_reducible refine aGd_split (fun _ => ?_) (fun _ => ?_))))
    · exact retV ⟨_, rfl⟩
    · exact retV ⟨_, rfl⟩
    · have ew : IntKind.i64.wrap ((j : Int) - 1) = (j : Int) - 1 := wrap_in (by omega) (by omega)
      exact roundI (weak_cut1 (by (first | ((simp only [envIn, tabIn, envLt, tabLt, AV.lt, ruW, ASt.get, aget, ↓reduceIte, reduceCtorEq, Nat.reduceLT, Nat.reduceEqDiff, eq_self, ew]) <;> (repeat' apply And.intro) <;> first | (rw [wrapK (by omega)]; done) | (simp; done) | omega) | fail))) ⟨j, IntKind.i64.wrap (v + IntKind.i64.wrap (n - 1)), by omega, rfl⟩ (by simp only [ruW, aget, ↓reduceIte, Nat.reduceLT, eq_self]; omega)
set_option maxRecDepth 100000 in
theorem check04_A (l : List Int) (hl : l.length ≤ 1000000) : ARel Tryz.prog 93 [.sl 9 (l.map eIt)] fun R => ∃ v, R = val (.int .i64 v) := by
  refine arel_of_code mixedT Tryz.func93 rfl (by decide) Tryz.ntmps93 Tryz.results93 rfl ?_
  have ew : IntKind.i64.wrap ((l.length : Int) - 1) = (l.length : Int) - 1 := wrap_in (by omega) (by omega)
  (repeat' (first | simp (maxSteps := 5000000) (implicitDefEqProofs := false) only [ruA, ruB, aEv, aLen, aBin, bin2, ASt.get, aget, ASt.put, envOf, aResL, aOne, ↓reduceIte, reduceCtorEq, Nat.reduceLT, Nat.reduceEqDiff, eq_self, ne_eq, tyE_132, ew] | (with_reducible refine aIf_split (fun _ => ?_) (fun _ => ?_)) | (with_reducible refine aSel_split (fun _ => ?_) (fun _ => ?_)) | (with_reducible refine aGd_split (fun _ => ?_) (fun _ => ?_))))
  · exact retV ⟨_, rfl⟩
  · exact retV ⟨_, rfl⟩
  · refine callPI (beginC_A l l.length (Nat.le_refl _) hl) fun n => ?_
    (repeat' (first | simp (maxSteps := 5000000) (implicitDefEqProofs := false) only [ruA, aEv, aBin, bin2, ASt.get, aget, ASt.put, aResL, aOne, ↓reduceIte, Nat.reduceLT, eq_self] | (with_reducible refine aIf_split (fun _ => ?_) (fun _ => ?_)) | (with_reducible refine aSel_split (fun _ => ?_) (fun _ => ?_)) | (with_reducible refine aGd_split (fun _ => ?_) (fun _ => ?_))))
    all_goals exact retV ⟨_, rfl⟩
end
end Go.Proofs.YtmcegfoaceilgaaGreat
