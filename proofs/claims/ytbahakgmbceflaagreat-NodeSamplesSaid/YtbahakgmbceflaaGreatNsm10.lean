/-
  Parts of the proof: SoO, ZC, ZD, AlN, ZS, ZT.
-/
import Derived.Test.YtbahakgmbceflaaGreatNsm9
set_option linter.unusedVariables false
set_option linter.unusedSimpArgs false
namespace Go.Proofs.YtbahakgmbceflaaGreat
section
open Go.RowKit
theorem adet_iff {P : Program} {f : FuncId} {args : List AV} {Q : Prop} (h : ARel P f args fun R => ∃ b, R = val (.bool b) ∧ (b = true ↔ Q)) : ∃ t : Bool, (t = true ↔ Q) ∧ ADet P f args (val (.bool t)) := by
  by_cases hQ : Q
  · exact ⟨true, by simp [hQ], h.mono fun R ⟨b, h1, h2⟩ => by rw [h1, h2.2 hQ]⟩
  · exact ⟨false, by simp [hQ], h.mono fun R ⟨b, h1, h2⟩ => by
      cases b with
      | true => exact absurd (h2.1 rfl) hQ
      | false => exact h1⟩
def GappedP (z : Zn) (cap : Int) : Prop := (z.gaps.length : Int) = max ((z.cls.length : Int) - 1) 0 ∧ ∀ i (h : i < z.gaps.length), 0 ≤ z.gaps[i] ∧ z.gaps[i] ≤ cap
set_option maxRecDepth 100000 in
set_option maxHeartbeats 8000000 in
theorem gapped_A (z : Zn) (cap : Int) (h1 : z.cls.length ≤ 1000000) (h2 : z.gaps.length ≤ 1000000) : ARel Tryz.prog 75 [.agg (eZn z), eI cap] fun R => ∃ b, R = val (.bool b) ∧ (b = true ↔ GappedP z cap) := by
  refine arel_of_code mixedT Tryz.func75 rfl (by decide) Tryz.ntmps75 Tryz.results75 rfl ?_
  have e1 : IntKind.i64.wrap ((z.cls.length : Int) - 1) = (z.cls.length : Int) - 1 := wrap_in (by omega) (by omega)
  by_cases hl : (z.gaps.length : Int) = max ((z.cls.length : Int) - 1) 0
  · have d1 : ((z.gaps.length : Int) != max ((z.cls.length : Int) - 1) 0) = false := by simp [hl]
    (repeat' (first | simp (maxSteps := 5000000) (implicitDefEqProofs := false) only [ruA, ruB, aEv, aTake, aLoad, aField, aLen, aBin, bin2, ASt.get, aget, ASt.put, aBox, aCells, oneC, oneCL, envOf, ↓reduceIte, reduceCtorEq, Nat.reduceLT, Nat.reduceEqDiff, Nat.reduceAdd, Nat.reduceLeDiff, eq_self, ne_eq, aMM, tyF_36_1, tyA_34, tyS_34, tyE_34, tyF_36_0, tyA_33, tyS_33, tyE_33, e1, d1] | (with_reducible refine aIf_split (fun _ => ?_) (fun _ => ?_)) | (with_reducible refine aSel_split (fun _ => ?_) (fun _ => ?_)) | (with_reducible refine aGd_split (fun _ => ?_) (fun _ => ?_)) | (with_reducible refine aDraw_quiet (by kernel_rfl) ?_)))
    refine aLoop_of (fun st => ∃ i : Nat, i ≤ z.gaps.length ∧ (∀ j (h : j < z.gaps.length), j < i → 0 ≤ z.gaps[j] ∧ z.gaps[j] ≤ cap) ∧ st = ⟨31, [(1, eI cap), (17, sI z.gaps), (18, eI (z.gaps.length : Int)), (19, eI (i : Int))], [], 0⟩) (fun st => z.gaps.length - slotN st 19) ⟨_, (weak_cut1 (by (first | ((simp only [envIn, tabIn, envLt, tabLt, AV.lt, ruW, ASt.get, aget, ↓reduceIte, Nat.reduceLT, Nat.reduceEqDiff, eq_self]) <;> (repeat' apply And.intro) <;> first | (rw [wrapK (by omega)]; done) | (simp; done) | omega) | fail))), 0, Nat.zero_le _, fun j _ h => by omega, rfl⟩ ?_
    rintro _ ⟨i, hi, hok, rfl⟩
    by_cases hlt : i < z.gaps.length
    · have hno : ¬ (0 ≤ z.gaps[i] ∧ z.gaps[i] ≤ cap) → ¬ GappedP z cap := fun h h2 => h (h2.2 i hlt)
      have hok2 : (0 ≤ z.gaps[i] ∧ z.gaps[i] ≤ cap) → ∀ j (h : j < z.gaps.length), j < i + 1 → 0 ≤ z.gaps[j] ∧ z.gaps[j] ≤ cap := fun h j hj hji => by
        rcases Nat.lt_or_ge j i with h2 | h2
        · exact hok j hj h2
        · obtain rfl : j = i := by omega
          exact h
      generalize hg : z.gaps[i] = g at *
      by_cases g1 : g < 0
      · have d2 : decide (g < 0) = true := by simpa using g1
        (repeat' (first | simp (maxSteps := 5000000) (implicitDefEqProofs := false) only [ruA, ruB, aEv, aTake, aLoad, aIndex, aBin, bin2, ASt.get, aget, ASt.put, aResL, aOne, ↓reduceIte, reduceCtorEq, Nat.reduceLT, Nat.reduceEqDiff, eq_self, tyE_34, tyA_3, tyS_3, row_at, hlt, hg, d2] | (with_reducible refine aIf_split (fun _ => ?_) (fun _ => ?_)) | (with_reducible refine aSel_split (fun _ => ?_) (fun _ => ?_)) | (with_reducible refine aGd_split (fun _ => ?_) (fun _ => ?_)) | (with_reducible refine aDraw_quiet (by kernel_rfl) ?_)))
        all_goals exact retV ⟨false, rfl, by simp; exact hno (by omega)⟩
      · have d2 : decide (g < 0) = false := by simpa using g1
        by_cases g2 : cap < g
        · have d3 : decide (cap < g) = true := by simpa using g2
          (repeat' (first | simp (maxSteps := 5000000) (implicitDefEqProofs := false) only [ruA, ruB, aEv, aTake, aLoad, aIndex, aBin, bin2, ASt.get, aget, ASt.put, aResL, aOne, ↓reduceIte, reduceCtorEq, Nat.reduceLT, Nat.reduceEqDiff, eq_self, tyE_34, tyA_3, tyS_3, row_at, hlt, hg, d2, d3] | (with_reducible refine aIf_split (fun _ => ?_) (fun _ => ?_)) | (with_reducible refine aSel_split (fun _ => ?_) (fun _ => ?_)) | (with_reducible refine aGd_split (fun _ => ?_) (fun _ => ?_)) | (with_reducible refine aDraw_quiet (by kernel_rfl) ?_)))
          all_goals exact retV ⟨false, rfl, by simp; exact hno (by omega)⟩
        · have d3 : decide (cap < g) = false := by simpa using g2
          (repeat' (first | simp (maxSteps := 5000000) (implicitDefEqProofs := false) only [ruA, ruB, aEv, aTake, aLoad, aIndex, aBin, bin2, ASt.get, aget, ASt.put, ↓reduceIte, reduceCtorEq, Nat.reduceLT, Nat.reduceEqDiff, eq_self, tyE_34, tyA_3, tyS_3, row_at, hlt, hg, d2, d3] | (with_reducible refine aIf_split (fun _ => ?_) (fun _ => ?_)) | (with_reducible refine aSel_split (fun _ => ?_) (fun _ => ?_)) | (with_reducible refine aGd_split (fun _ => ?_) (fun _ => ?_)) | (with_reducible refine aDraw_quiet (by kernel_rfl) ?_)))
          all_goals exact roundI (weak_cut1 (by (first | ((simp only [envIn, tabIn, envLt, tabLt, AV.lt, ruW, ASt.get, aget, ↓reduceIte, Nat.reduceLT, Nat.reduceEqDiff, eq_self]) <;> (repeat' apply And.intro) <;> first | (rw [wrapK (by omega)]; done) | (simp; done) | omega) | fail))) ⟨i + 1, by omega, hok2 ⟨by omega, by omega⟩, rfl⟩ (by simp only [slotN, ruW, ASt.get, aget, ↓reduceIte, Nat.reduceLT, Nat.reduceEqDiff, eq_self]; omega)
    · (repeat' (first | simp (maxSteps := 5000000) (implicitDefEqProofs := false) only [ruA, ruB, aEv, aBin, bin2, ASt.get, aget, ASt.put, aResL, aOne, ↓reduceIte, Nat.reduceLT, Nat.reduceEqDiff, eq_self, hlt] | (with_reducible refine aIf_split (fun _ => ?_) (fun _ => ?_)) | (with_reducible refine aSel_split (fun _ => ?_) (fun _ => ?_)) | (with_reducible refine aGd_split (fun _ => ?_) (fun _ => ?_)) | (with_reducible refine aDraw_quiet (by kernel_rfl) ?_)))
      all_goals exact retV ⟨true, rfl, by simp; exact ⟨hl, fun j hj => hok j hj (by omega)⟩⟩
  · have d1 : ((z.gaps.length : Int) != max ((z.cls.length : Int) - 1) 0) = true := by simpa using hl
    (repeat' (first | simp (maxSteps := 5000000) (implicitDefEqProofs := false) only [ruA, ruB, aEv, aTake, aLoad, aField, aLen, aBin, bin2, ASt.get, aget, ASt.put, aBox, aCells, oneC, oneCL, envOf, aResL, aOne, ↓reduceIte, reduceCtorEq, Nat.reduceLT, Nat.reduceEqDiff, Nat.reduceAdd, Nat.reduceLeDiff, eq_self, ne_eq, aMM, tyF_36_1, tyA_34, tyS_34, tyE_34, tyF_36_0, tyA_33, tyS_33, tyE_33, e1, d1] | (with_reducible refine aIf_split (fun _ => ?_) (fun _ => ?_)) | (with_reducible refine aSel_split (fun _ => ?_) (fun _ => ?_)) | (with_reducible refine aGd_split (fun _ => ?_) (fun _ => ?_)) | (with_reducible refine aDraw_quiet (by kernel_rfl) ?_)))
    all_goals exact retV ⟨false, rfl, by simp; exact fun h => hl h.1⟩
def fixI (l : List Cls) (k : Nat) : List Nat := (List.range k).filter fun i => decide (0 ≤ (l[i]?.map (·.const)).getD (-1))
theorem fixI_snoc (l : List Cls) {k : Nat} (hk : k < l.length) : fixI l (k + 1) = if 0 ≤ l[k].const then fixI l k ++ [k] else fixI l k := by
  unfold fixI
  rw [List.range_succ, List.filter_append]
  by_cases h : 0 ≤ l[k].const
  · rw [if_pos h]
    simp [List.getElem?_eq_getElem hk, h]
  · rw [if_neg h]
    simp [List.getElem?_eq_getElem hk]
    omega
theorem fixI_len (l : List Cls) (k : Nat) : (fixI l k).length ≤ k := by
  have := List.length_filter_le (fun i => decide (0 ≤ (l[i]?.map (·.const)).getD (-1))) (List.range k)
  unfold fixI
  simpa using this
set_option maxRecDepth 100000 in
set_option maxHeartbeats 8000000 in
theorem fixed_A (z : Zn) (h1 : z.cls.length ≤ 1000000) : ADet Tryz.prog 50 [.agg (eZn z)] (own 3 1 ((fixI z.cls z.cls.length).map fun n : Nat => [eI (n : Int)])) := by
  refine adet_of_code mixedT Tryz.func50 rfl (by decide) Tryz.ntmps50 Tryz.results50 rfl (own_ok _ _ _) ?_
  (repeat' (first | simp (maxSteps := 5000000) (implicitDefEqProofs := false) only [ruA, ruB, aEv, aTake, aLoad, aField, aLen, ASt.get, aget, ASt.put, aBox, aCells, oneC, oneCL, envOf, ↓reduceIte, reduceCtorEq, Nat.reduceLT, Nat.reduceEqDiff, Nat.reduceAdd, Nat.reduceLeDiff, eq_self, ne_eq, tyF_36_0, tyA_33, tyS_33, tyE_33] | (with_reducible refine aIf_split (fun _ => ?_) (fun _ => ?_)) | (with_reducible refine aSel_split (fun _ => ?_) (fun _ => ?_)) | (with_reducible refine aGd_split (fun _ => ?_) (fun _ => ?_))))
  refine aLoop_of (fun st => ∃ k : Nat, k ≤ z.cls.length ∧ st = ⟨23, [(3, .osl 0), (7, .sl 2 (z.cls.map eCls)), (8, eI (z.cls.length : Int)), (9, eI (k : Int))], [(0, some (.row 3 1 ((fixI z.cls k).map fun n : Nat => [eI (n : Int)])))], 1⟩) (fun st => z.cls.length - slotN st 9) ⟨_, ((weak_nil 3 3 1 (by simp only [ASt.get, aget, ↓reduceIte, Nat.reduceLT, Nat.reduceEqDiff, eq_self])).trans (weak_ren1 [1] ⟨(by decide), (by (first | ((simp only [envInR, tabInR, envLt, tabLt, AObj.lt, AV.lt, AV.ren, AObj.ren, List.getD_cons_zero, List.length_cons, List.length_nil, ruW, ASt.get, aget, ↓reduceIte, Nat.reduceLT, Nat.reduceEqDiff, Nat.reduceAdd, eq_self, fixI, List.range_zero, List.filter_nil]) <;> (repeat' apply And.intro) <;> first | (rw [wrapK (by omega)]; done) | (simp; done) | omega) | fail))⟩)), 0, Nat.zero_le _, rfl⟩ ?_
  rintro _ ⟨k, hk, rfl⟩
  by_cases hlt : k < z.cls.length
  · have hs := fixI_snoc z.cls hlt
    have hl := fixI_len z.cls k
    generalize hc : z.cls[k] = c at *
    by_cases h : 0 ≤ c.const
    · have d1 : decide (0 ≤ c.const) = true := by simpa using h
      rw [if_pos h] at hs
      have hsn : (fixI z.cls (k + 1)).map (fun n : Nat => [eI (n : Int)]) = (fixI z.cls k).map (fun n : Nat => [eI (n : Int)]) ++ [[eI (k : Int)]] := by rw [hs, List.map_append]; rfl
      (repeat' (first | simp (maxSteps := 5000000) (implicitDefEqProofs := false) only [ruA, ruB, aEv, aTake, aLoad, aField, aIndex, aBin, bin2, ASt.get, aget, ASt.put, aStore, aBox, aAppend, aBuildSlice, aCells, oneC, oneCL, treeC, treeL, aLit, aDst, aSrc, appTab, Value.cells, Value.oneCell', ↓reduceIte, reduceCtorEq, Nat.reduceLT, Nat.reduceEqDiff, Nat.reduceAdd, Nat.reduceMul, Nat.reduceLeDiff, eq_self, aBuildSlice1, frzs, ownIds, tyE_33, tyA_63, tyS_63, tyZ_63, tyF_63_1, tyA_3, tyS_3, tyR_34, row_at, hlt, hc, d1] | (with_reducible refine aIf_split (fun _ => ?_) (fun _ => ?_)) | (with_reducible refine aSel_split (fun _ => ?_) (fun _ => ?_)) | (with_reducible refine aGd_split (fun _ => ?_) (fun _ => ?_)) | (with_reducible refine aDraw_quiet (by kernel_rfl) ?_) | (with_reducible apply And.intro)))
      all_goals first
        | rfl
        | omega
        | exact roundI (weak_ren1 [3] ⟨(by decide), (by (first | ((simp only [envInR, tabInR, envLt, tabLt, AObj.lt, AV.lt, AV.ren, AObj.ren, List.getD_cons_zero, List.length_cons, List.length_nil, ruW, ASt.get, aget, ↓reduceIte, Nat.reduceLT, Nat.reduceEqDiff, Nat.reduceAdd, eq_self, hsn]) <;> (repeat' apply And.intro) <;> first | (rw [wrapK (by omega)]; done) | (simp; done) | omega) | fail))⟩) ⟨k + 1, by omega, rfl⟩ (by simp only [slotN, ruW, ASt.get, aget, ↓reduceIte, Nat.reduceLT, Nat.reduceEqDiff, eq_self]; omega)
        | trace_state
    · have d1 : decide (0 ≤ c.const) = false := by simpa using h
      rw [if_neg h] at hs
      (repeat' (first | simp (maxSteps := 5000000) (implicitDefEqProofs := false) only [ruA, ruB, aEv, aTake, aLoad, aField, aIndex, aBin, bin2, ASt.get, aget, ASt.put, aStore, aBox, aCells, oneC, oneCL, Value.cells, Value.oneCell', ↓reduceIte, reduceCtorEq, Nat.reduceLT, Nat.reduceEqDiff, Nat.reduceAdd, eq_self, tyE_33, tyA_63, tyS_63, tyZ_63, tyF_63_1, tyA_3, tyS_3, row_at, hlt, hc, d1] | (with_reducible refine aIf_split (fun _ => ?_) (fun _ => ?_)) | (with_reducible refine aSel_split (fun _ => ?_) (fun _ => ?_)) | (with_reducible refine aGd_split (fun _ => ?_) (fun _ => ?_)) | (with_reducible refine aDraw_quiet (by kernel_rfl) ?_) | (with_reducible apply And.intro)))
      all_goals first
        | exact roundI (weak_ren1 [0] ⟨(by decide), (by (first | ((simp only [envInR, tabInR, envLt, tabLt, AObj.lt, AV.lt, AV.ren, AObj.ren, List.getD_cons_zero, List.length_cons, List.length_nil, ruW, ASt.get, aget, ↓reduceIte, reduceCtorEq, Nat.reduceLT, Nat.reduceEqDiff, Nat.reduceAdd, eq_self, hs]) <;> (repeat' apply And.intro) <;> first | (rw [wrapK (by omega)]; done) | (simp; done) | omega) | fail))⟩) ⟨k + 1, by omega, rfl⟩ (by simp only [slotN, ruW, ASt.get, aget, ↓reduceIte, Nat.reduceLT, Nat.reduceEqDiff, eq_self]; omega)
        | trace_state
  · obtain rfl : k = z.cls.length := by omega
    (repeat' (first | simp (maxSteps := 5000000) (implicitDefEqProofs := false) only [ruA, ruB, aEv, aBin, bin2, ASt.get, aget, ASt.put, aResL, aOne, ↓reduceIte, Nat.reduceLT, Nat.reduceEqDiff, eq_self, hlt] | (with_reducible refine aIf_split (fun _ => ?_) (fun _ => ?_)) | (with_reducible refine aSel_split (fun _ => ?_) (fun _ => ?_)) | (with_reducible refine aGd_split (fun _ => ?_) (fun _ => ?_)) | (with_reducible refine aDraw_quiet (by kernel_rfl) ?_)))
    all_goals exact aGives_own (by simp [ATab.get_cons])
def gapsPQ (z : Zn) (p q : Nat) : List Int := (z.gaps.take q).drop p
def RoomP (z : Zn) (p q : Nat) (cap a b : Int) : Prop :=
  gapV a b ((q : Int) - p - 1 + (gapsPQ z p q).sum + 1) = (q : Int) - p - 1 + (gapsPQ z p q).sum ∨ ((∃ g ∈ gapsPQ z p q, g = cap) ∧ (q : Int) - p - 1 + (gapsPQ z p q).sum < gapV a b ((q : Int) - p - 1 + (gapsPQ z p q).sum + 1))
theorem sum_bd (cap : Int) (hc : 0 ≤ cap) : ∀ l : List Int, (∀ g ∈ l, 0 ≤ g ∧ g ≤ cap) → 0 ≤ l.sum ∧ l.sum ≤ cap * l.length
  | [], _ => by simp
  | g :: l, h => by
    have h1 := sum_bd cap hc l fun x hx => h x (List.mem_cons_of_mem _ hx)
    have h2 := h g (List.mem_cons_self ..)
    rw [List.sum_cons, List.length_cons, Int.natCast_add, Int.mul_add]
    omega
set_option maxRecDepth 100000 in
set_option maxHeartbeats 8000000 in
theorem room_A (z : Zn) (p q : Nat) (cap a b : Int) (hpq : p < q) (hq : q ≤ z.gaps.length) (h2 : z.gaps.length ≤ 1000000) (hg : ∀ i (h : i < z.gaps.length), 0 ≤ z.gaps[i] ∧ z.gaps[i] ≤ cap) (hcap : 0 ≤ cap ∧ cap ≤ 4294967296) (ha : ok64 a) (hb : ok64 b) :
    ARel Tryz.prog 76 [.agg (eZn z), eI (p : Int), eI (q : Int), eI cap, eI a, eI b] fun R => ∃ t, R = val (.bool t) ∧ (t = true ↔ RoomP z p q cap a b) := by
  refine arel_of_code mixedT Tryz.func76 rfl (by decide) Tryz.ntmps76 Tryz.results76 rfl ?_
  unfold RoomP
  have hgl : (gapsPQ z p q).length = q - p := by unfold gapsPQ; rw [List.length_drop, List.length_take]; omega
  have hgb : ∀ g ∈ gapsPQ z p q, 0 ≤ g ∧ g ≤ cap := fun g hgm => by
    obtain ⟨i, hi, rfl⟩ := List.getElem_of_mem (List.mem_of_mem_take (List.mem_of_mem_drop hgm))
    exact hg i hi
  have hrows : List.drop p (List.take q (z.gaps.map fun n => [eI n])) = (gapsPQ z p q).map fun n => [eI n] := by unfold gapsPQ; rw [List.map_drop, List.map_take]
  generalize gapsPQ z p q = G at *
  have hgl2 : G.length ≤ 1000000 := by omega
  have hsb : ∀ k, k ≤ G.length → 0 ≤ (G.take k).sum ∧ (G.take k).sum ≤ 4294967296000000 := fun k hk => by
    have h := sum_bd cap hcap.1 (G.take k) fun g hgm => hgb g (List.mem_of_mem_take hgm)
    have h5 : ((G.take k).length : Int) ≤ 1000000 := by rw [List.length_take]; omega
    have h6 : cap * ((G.take k).length : Int) ≤ 4294967296 * 1000000 := Int.mul_le_mul hcap.2 h5 (by omega) (by omega)
    omega
  have hL : (((G.map fun n => [eI n]).length : Nat) : Int) = (G.length : Int) := by rw [List.length_map]
  have e1 : IntKind.i64.wrap ((q : Int) - (p : Int)) = (q : Int) - p := wrap_in (by omega) (by omega)
  obtain ⟨B, hB⟩ : ∃ B, (q : Int) - p - 1 = B := ⟨_, rfl⟩
  have e2 : IntKind.i64.wrap ((q : Int) - (p : Int) - 1) = B := by rw [hB]; exact wrap_in (by omega) (by omega)
  rw [hB]
  have hB1 : 0 ≤ B ∧ B ≤ 1000000 := by omega
  (repeat' (first | simp (maxSteps := 5000000) (implicitDefEqProofs := false) only [ruA, ruB, aEv, aTake, aLoad, aField, aLen, aBin, bin2, ASt.get, aget, ASt.put, aBox, aCells, oneC, oneCL, envOf, ↓reduceIte, reduceCtorEq, Nat.reduceLT, Nat.reduceEqDiff, Nat.reduceAdd, eq_self, ne_eq, aSliceW, aSlice, aSliceR, aBd, tyF_36_1, tyA_34, tyS_34, tyE_34, e1, e2, hrows] | (with_reducible refine aIf_split (fun _ => ?_) (fun _ => ?_)) | (with_reducible refine aSel_split (fun _ => ?_) (fun _ => ?_)) | (with_reducible refine aGd_split (fun _ => ?_) (fun _ => ?_))))
  refine ⟨⟨by omega, by omega⟩, ?_⟩
  clear hrows hg
  refine aLoop_of (fun st => ∃ (k : Nat) (s : Int) (w : Bool), k ≤ G.length ∧ s = B + (G.take k).sum ∧ (w = true ↔ ∃ g ∈ G.take k, g = cap) ∧ st = ⟨58, [(3, eI cap), (4, eI a), (5, eI b), (13, eI s), (14, .c (.bool w)), (26, sI G), (27, eI (G.length : Int)), (28, eI (k : Int))], [], 0⟩) (fun st => G.length - slotN st 28) ⟨_, (weak_cut1 (by (first | ((simp only [envIn, tabIn, envLt, tabLt, AV.lt, ruW, ASt.get, aget, ↓reduceIte, Nat.reduceLT, Nat.reduceEqDiff, eq_self]) <;> (repeat' apply And.intro) <;> first | (rw [wrapK (by omega)]; done) | (simp; done) | omega) | fail))), 0, B, false, Nat.zero_le _, by simp, by simp, rfl⟩ ?_
  rintro _ ⟨k, s, w, hk, hs, hw, rfl⟩
  by_cases hlt : k < G.length
  · have htk : G.take (k + 1) = G.take k ++ [G[k]] := List.take_succ_eq_append_getElem hlt
    have h5 := hsb k (by omega)
    have h6 := hsb (k + 1) (by omega)
    rw [htk, List.sum_append, List.sum_singleton] at h6
    have es : IntKind.i64.wrap (s + G[k]) = s + G[k] := wrap_in (by omega) (by omega)
    have hs2 : s + G[k] = B + (G.take (k + 1)).sum := by rw [htk, List.sum_append, List.sum_singleton]; omega
    have hw2 : (w || G[k] == cap) = true ↔ ∃ g ∈ G.take (k + 1), g = cap := by
      rw [htk, Bool.or_eq_true, hw]
      simp only [List.mem_append, List.mem_singleton, beq_iff_eq]
      constructor
      · rintro (⟨g, h1, h2⟩ | h)
        · exact ⟨g, .inl h1, h2⟩
        · exact ⟨_, .inr rfl, h⟩
      · rintro ⟨g, h1 | rfl, h2⟩
        · exact .inl ⟨g, h1, h2⟩
        · exact .inr h2
    clear hw hs hsb htk
    generalize hgk : G[k] = g at *
    cases w with
    | true =>
      (repeat' (first | simp (maxSteps := 5000000) (implicitDefEqProofs := false) only [ruA, ruB, aEv, aTake, aLoad, aIndex, aBin, bin2, ASt.get, aget, ASt.put, ↓reduceIte, reduceCtorEq, Nat.reduceLT, Nat.reduceEqDiff, eq_self, tyE_34, tyA_3, tyS_3, row_at, hlt, hgk, es] | (with_reducible refine aIf_split (fun _ => ?_) (fun _ => ?_)) | (with_reducible refine aSel_split (fun _ => ?_) (fun _ => ?_)) | (with_reducible refine aGd_split (fun _ => ?_) (fun _ => ?_)) | (with_reducible refine aDraw_quiet (by kernel_rfl) ?_)))
      all_goals exact roundI (weak_cut1 (by (first | ((simp only [envIn, tabIn, envLt, tabLt, AV.lt, ruW, ASt.get, aget, ↓reduceIte, Nat.reduceLT, Nat.reduceEqDiff, eq_self]) <;> (repeat' apply And.intro) <;> first | (rw [wrapK (by omega)]; done) | (simp; done) | omega) | fail))) ⟨k + 1, s + g, true, by omega, hs2, by simpa using hw2, rfl⟩ (by simp only [slotN, ruW, ASt.get, aget, ↓reduceIte, Nat.reduceLT, Nat.reduceEqDiff, eq_self]; omega)
    | false =>
      by_cases hgc : g = cap
      · have d1 : (g == cap) = true := by simpa using hgc
        (repeat' (first | simp (maxSteps := 5000000) (implicitDefEqProofs := false) only [ruA, ruB, aEv, aTake, aLoad, aIndex, aBin, bin2, ASt.get, aget, ASt.put, ↓reduceIte, reduceCtorEq, Nat.reduceLT, Nat.reduceEqDiff, eq_self, tyE_34, tyA_3, tyS_3, row_at, hlt, hgk, es, d1] | (with_reducible refine aIf_split (fun _ => ?_) (fun _ => ?_)) | (with_reducible refine aSel_split (fun _ => ?_) (fun _ => ?_)) | (with_reducible refine aGd_split (fun _ => ?_) (fun _ => ?_)) | (with_reducible refine aDraw_quiet (by kernel_rfl) ?_)))
        all_goals exact roundI (weak_cut1 (by (first | ((simp only [envIn, tabIn, envLt, tabLt, AV.lt, ruW, ASt.get, aget, ↓reduceIte, Nat.reduceLT, Nat.reduceEqDiff, eq_self]) <;> (repeat' apply And.intro) <;> first | (rw [wrapK (by omega)]; done) | (simp; done) | omega) | fail))) ⟨k + 1, s + g, true, by omega, hs2, by rw [← hw2, d1]; rfl, rfl⟩ (by simp only [slotN, ruW, ASt.get, aget, ↓reduceIte, Nat.reduceLT, Nat.reduceEqDiff, eq_self]; omega)
      · have d1 : (g == cap) = false := by simpa using hgc
        (repeat' (first | simp (maxSteps := 5000000) (implicitDefEqProofs := false) only [ruA, ruB, aEv, aTake, aLoad, aIndex, aBin, bin2, ASt.get, aget, ASt.put, ↓reduceIte, reduceCtorEq, Nat.reduceLT, Nat.reduceEqDiff, eq_self, tyE_34, tyA_3, tyS_3, row_at, hlt, hgk, es, d1] | (with_reducible refine aIf_split (fun _ => ?_) (fun _ => ?_)) | (with_reducible refine aSel_split (fun _ => ?_) (fun _ => ?_)) | (with_reducible refine aGd_split (fun _ => ?_) (fun _ => ?_)) | (with_reducible refine aDraw_quiet (by kernel_rfl) ?_)))
        all_goals exact roundI (weak_cut1 (by (first | ((simp only [envIn, tabIn, envLt, tabLt, AV.lt, ruW, ASt.get, aget, ↓reduceIte, Nat.reduceLT, Nat.reduceEqDiff, eq_self]) <;> (repeat' apply And.intro) <;> first | (rw [wrapK (by omega)]; done) | (simp; done) | omega) | fail))) ⟨k + 1, s + g, false, by omega, hs2, by rw [← hw2, d1]; rfl, rfl⟩ (by simp only [slotN, ruW, ASt.get, aget, ↓reduceIte, Nat.reduceLT, Nat.reduceEqDiff, eq_self]; omega)
  · obtain rfl : k = G.length := by omega
    have h5 := hsb G.length (Nat.le_refl _)
    rw [List.take_length] at hs hw h5
    have es : IntKind.i64.wrap (s + 1) = s + 1 := wrap_in (by omega) (by omega)
    have hG := numGap_A a b (s + 1) ha hb (by unfold ok64; omega)
    rw [← hs]
    by_cases g1 : gapV a b (s + 1) = s
    · have d1 : (gapV a b (s + 1) == s) = true := by simpa using g1
      (repeat' (first | simp (maxSteps := 5000000) (implicitDefEqProofs := false) only [ruA, ruB, aEv, aBin, bin2, ASt.get, aget, ASt.put, aResL, aOne, ↓reduceIte, Nat.reduceLT, Nat.reduceEqDiff, eq_self, hlt, es, d1] | (with_reducible refine aIf_split (fun _ => ?_) (fun _ => ?_)) | (with_reducible refine aSel_split (fun _ => ?_) (fun _ => ?_)) | (with_reducible refine aGd_split (fun _ => ?_) (fun _ => ?_)) | (with_reducible refine aDraw_quiet (by kernel_rfl) ?_) | ((with_reducible apply callV); exact (hG)) | ((with_reducible apply callD); exact (hG))))
      all_goals exact retV ⟨true, rfl, by simp [g1]⟩
    · have d1 : (gapV a b (s + 1) == s) = false := by simpa using g1
      cases w with
      | true =>
        (repeat' (first | simp (maxSteps := 5000000) (implicitDefEqProofs := false) only [ruA, ruB, aEv, aBin, bin2, ASt.get, aget, ASt.put, aResL, aOne, ↓reduceIte, Nat.reduceLT, Nat.reduceEqDiff, eq_self, hlt, es, d1] | (with_reducible refine aIf_split (fun _ => ?_) (fun _ => ?_)) | (with_reducible refine aSel_split (fun _ => ?_) (fun _ => ?_)) | (with_reducible refine aGd_split (fun _ => ?_) (fun _ => ?_)) | (with_reducible refine aDraw_quiet (by kernel_rfl) ?_) | ((with_reducible apply callV); exact (hG)) | ((with_reducible apply callD); exact (hG))))
        all_goals exact retV ⟨_, rfl, by simp at hw; simp [g1, hw]⟩
      | false =>
        (repeat' (first | simp (maxSteps := 5000000) (implicitDefEqProofs := false) only [ruA, ruB, aEv, aBin, bin2, ASt.get, aget, ASt.put, aResL, aOne, ↓reduceIte, Nat.reduceLT, Nat.reduceEqDiff, eq_self, hlt, es, d1] | (with_reducible refine aIf_split (fun _ => ?_) (fun _ => ?_)) | (with_reducible refine aSel_split (fun _ => ?_) (fun _ => ?_)) | (with_reducible refine aGd_split (fun _ => ?_) (fun _ => ?_)) | (with_reducible refine aDraw_quiet (by kernel_rfl) ?_) | ((with_reducible apply callV); exact (hG)) | ((with_reducible apply callD); exact (hG))))
        all_goals exact retV ⟨_, rfl, by simp at hw; simp [g1, hw]⟩
end
section
open Go.RowKit
theorem fixI_le (l : List Cls) : ∀ k, k ≤ l.length → (fixI l k).length ≤ nextN (l.take k)
  | 0, _ => by simp [fixI]
  | k + 1, h => by
    have ih := fixI_le l k (by omega)
    rw [fixI_snoc l (by omega), List.take_succ_eq_append_getElem (by omega), nextN_snoc]
    split
    · rw [List.length_append, List.length_singleton, if_neg (by omega)]
      omega
    · omega
theorem fixI_up (l : List Cls) (k : Nat) : (fixI l k).Pairwise (· < ·) := List.Pairwise.filter _ List.pairwise_lt_range
theorem fixI_mem (l : List Cls) (k : Nat) {i : Nat} (h : i ∈ fixI l k) : i < k := by
  unfold fixI at h
  simp at h
  exact h.1
def fixL (z : Zn) : List Nat := fixI z.cls z.cls.length
def CheckP (z : Zn) (n : Int) (c : List Int) (r : Int) : Prop :=
  ((0 ≤ n ∧ n ≤ 31) ∧ FormedP z.cls n ((sortR c).length : Int) ∧ GappedP z (capV r)) ∧ ∀ i, i + 1 < (fixL z).length → RoomP z ((fixL z).getD i 0) ((fixL z).getD (i + 1) 0) (capV r) ((sortR c).getD i 0) ((sortR c).getD (i + 1) 0)
set_option maxRecDepth 100000 in
set_option maxHeartbeats 16000000 in
theorem zoneCheck_A (z : Zn) (n : Int) (c : List Int) (r : Int) (h1 : z.cls.length ≤ 1000000) (h2 : z.gaps.length ≤ 1000000) (h3 : c.length ≤ 1000000) (hc : ∀ x ∈ c, ok64 x) : ARel Tryz.prog 47 [.agg (eZn z), eI n, sI c, eI r] fun R => ∃ b, R = val (.bool b) ∧ (b = true ↔ CheckP z n c r) := by
  refine arel_of_code mixedT Tryz.func47 rfl (by decide) Tryz.ntmps47 Tryz.results47 rfl ?_
  have hS := numSorted_A c h3
  have hCap := halveCap_A r
  have hcap0 := capV_0 r
  have hcap1 := capV_le r
  have hsl := sortR_len c
  have hso : ∀ x ∈ sortR c, ok64 x := fun x hx => hc x (((sortR_up c).2 x).1 hx)
  unfold CheckP
  generalize sortR c = sc at *
  generalize capV r = cap at *
  obtain ⟨t1, ht1, hF⟩ := adet_iff (formed_A z n (sc.length : Int) h1)
  obtain ⟨t2, ht2, hG⟩ := adet_iff (gapped_A z cap h1 h2)
  rw [← ht1, ← ht2]
  by_cases g1 : 0 ≤ n
  · have d1 : decide (n < 0) = false := by simpa using g1
    by_cases g2 : n ≤ 31
    · have d2 : decide (31 < n) = false := by simpa using g2
      cases t1 with
      | false =>
        (repeat' (first | simp (maxSteps := 5000000) (implicitDefEqProofs := false) only [ruA, ruB, aEv, aTake, aLoad, aLen, aBin, bin2, aUn, un1, ASt.get, aget, ASt.put, aBox, aCells, oneC, oneCL, envOf, aResL, aOne, ↓reduceIte, reduceCtorEq, Nat.reduceLT, Nat.reduceEqDiff, Nat.reduceAdd, eq_self, ne_eq, dref, dref1, AV.shift, tyA_36, tyS_36, tyE_23, d1, d2] | (with_reducible refine aIf_split (fun _ => ?_) (fun _ => ?_)) | (with_reducible refine aSel_split (fun _ => ?_) (fun _ => ?_)) | (with_reducible refine aGd_split (fun _ => ?_) (fun _ => ?_)) | (with_reducible refine aDraw_quiet (by kernel_rfl) ?_) | ((with_reducible apply callT); exact (hS); exact (.inl (by simp [roL, roA]))) | ((with_reducible apply callV); exact (hF)) | ((with_reducible apply callD); exact (hF))))
        all_goals exact retV ⟨false, rfl, by simp⟩
      | true =>
        cases t2 with
        | false =>
          (repeat' (first | simp (maxSteps := 5000000) (implicitDefEqProofs := false) only [ruA, ruB, aEv, aTake, aLoad, aLen, aBin, bin2, aUn, un1, ASt.get, aget, ASt.put, aBox, aCells, oneC, oneCL, envOf, aResL, aOne, ↓reduceIte, reduceCtorEq, Nat.reduceLT, Nat.reduceEqDiff, Nat.reduceAdd, eq_self, ne_eq, dref, dref1, AV.shift, tyA_36, tyS_36, tyE_23, d1, d2] | (with_reducible refine aIf_split (fun _ => ?_) (fun _ => ?_)) | (with_reducible refine aSel_split (fun _ => ?_) (fun _ => ?_)) | (with_reducible refine aGd_split (fun _ => ?_) (fun _ => ?_)) | (with_reducible refine aDraw_quiet (by kernel_rfl) ?_) | ((with_reducible apply callT); exact (hS); exact (.inl (by simp [roL, roA]))) | ((with_reducible apply callV); exact (hF)) | ((with_reducible apply callD); exact (hF)) | ((with_reducible apply callV); exact (hCap)) | ((with_reducible apply callD); exact (hCap)) | ((with_reducible apply callV); exact (hG)) | ((with_reducible apply callD); exact (hG))))
          all_goals exact retV ⟨false, rfl, by simp⟩
        | true =>
          have hfx : (fixL z).length ≤ sc.length := by
            have := fixI_le z.cls z.cls.length (Nat.le_refl _)
            rw [List.take_length] at this
            have h5 := (ht1.1 rfl).2.2
            unfold fixL
            omega
          have hup : (fixL z).Pairwise (· < ·) := fixI_up _ _
          have hlt2 : ∀ i ∈ fixL z, i < z.cls.length := fun i hi => fixI_mem _ _ hi
          have hgp := ht2.1 rfl
          have hX := fixed_A z h1
          have hXe : fixI z.cls z.cls.length = fixL z := rfl
          rw [hXe] at hX
          have hRoom : ∀ i, i + 1 < (fixL z).length → ∃ t : Bool, (t = true ↔ RoomP z ((fixL z).getD i 0) ((fixL z).getD (i + 1) 0) cap (sc.getD i 0) (sc.getD (i + 1) 0)) ∧ ADet Tryz.prog 76 [.agg (eZn z), eI (((fixL z).getD i 0 : Nat) : Int), eI (((fixL z).getD (i + 1) 0 : Nat) : Int), eI cap, eI (sc.getD i 0), eI (sc.getD (i + 1) 0)] (val (.bool t)) := fun i hi => by
            have e1 : (fixL z).getD i 0 = (fixL z)[i] := by rw [List.getD_eq_getElem?_getD, List.getElem?_eq_getElem (by omega)]; rfl
            have e2 : (fixL z).getD (i + 1) 0 = (fixL z)[i + 1] := by rw [List.getD_eq_getElem?_getD, List.getElem?_eq_getElem (by omega)]; rfl
            have e3 : sc.getD i 0 = sc[i] := by rw [List.getD_eq_getElem?_getD, List.getElem?_eq_getElem (by omega)]; rfl
            have e4 : sc.getD (i + 1) 0 = sc[i + 1] := by rw [List.getD_eq_getElem?_getD, List.getElem?_eq_getElem (by omega)]; rfl
            have h5 := List.pairwise_iff_getElem.1 hup i (i + 1) (by omega) hi (by omega)
            have h6 := hlt2 _ (List.getElem_mem hi)
            have h7 := hgp.1
            exact adet_iff (room_A z _ _ cap _ _ (by rw [e1, e2]; exact h5) (by rw [e2]; omega) h2 hgp.2 ⟨hcap0, hcap1⟩ (by rw [e3]; exact hso _ (List.getElem_mem _)) (by rw [e4]; exact hso _ (List.getElem_mem _)))
          have hal : (fixL z).length ≤ 1000000 := by
            have := fixI_len z.cls z.cls.length
            unfold fixL
            omega
          clear ht1 ht2 hup hlt2 hgp hXe
          generalize fixL z = at' at *
          (repeat' (first | simp (maxSteps := 5000000) (implicitDefEqProofs := false) only [ruA, ruB, aEv, aTake, aLoad, aLen, aBin, bin2, aUn, un1, ASt.get, aget, ASt.put, aBox, aCells, oneC, oneCL, envOf, ↓reduceIte, Nat.reduceLT, Nat.reduceEqDiff, Nat.reduceAdd, eq_self, ne_eq, dref, dref1, AV.shift, tyA_36, tyS_36, tyE_23, d1, d2] | (with_reducible refine aIf_split (fun _ => ?_) (fun _ => ?_)) | (with_reducible refine aSel_split (fun _ => ?_) (fun _ => ?_)) | (with_reducible refine aGd_split (fun _ => ?_) (fun _ => ?_)) | (with_reducible refine aDraw_quiet (by kernel_rfl) ?_) | ((with_reducible apply callT); exact (hS); exact (.inl (by simp [roL, roA]))) | ((with_reducible apply callV); exact (hF)) | ((with_reducible apply callD); exact (hF)) | ((with_reducible apply callV); exact (hCap)) | ((with_reducible apply callD); exact (hCap)) | ((with_reducible apply callV); exact (hG)) | ((with_reducible apply callD); exact (hG))))
          all_goals refine callO hX (.inr (fun row hr av ha => by
            obtain ⟨m, _, rfl⟩ := List.mem_map.1 hr
            simp at ha
            rw [ha]
            trivial)) ?_
          all_goals (repeat' (first | simp (maxSteps := 5000000) (implicitDefEqProofs := false) only [ruA, aEv, ASt.get, aget, ASt.put, ↓reduceIte, Nat.reduceLT, Nat.reduceAdd, eq_self] | (with_reducible refine aIf_split (fun _ => ?_) (fun _ => ?_)) | (with_reducible refine aSel_split (fun _ => ?_) (fun _ => ?_)) | (with_reducible refine aGd_split (fun _ => ?_) (fun _ => ?_))))
          refine aLoop_of (fun st => ∃ k : Nat, (k = 0 ∨ k + 1 ≤ at'.length) ∧ (∀ i, i + 1 < at'.length → i < k → RoomP z (at'.getD i 0) (at'.getD (i + 1) 0) cap (sc.getD i 0) (sc.getD (i + 1) 0)) ∧ st = ⟨66, [(3, eI r), (4, .op 0 0 0), (9, sI sc), (10, .osl 1), (11, eI ((k + 1 : Nat) : Int))], [(0, some (.box 36 (eZn z))), (1, some (.row 3 1 (at'.map fun n : Nat => [eI (n : Int)])))], 2⟩) (fun st => at'.length - slotN st 11) ⟨_, (weak_cut1 (by (first | ((simp only [envIn, tabIn, envLt, tabLt, AObj.lt, AV.lt, AV.ltL, ruW, ASt.get, aget, ↓reduceIte, reduceCtorEq, Nat.reduceLT, Nat.reduceEqDiff, Nat.reduceAdd, eq_self]) <;> (repeat' apply And.intro) <;> first | (rw [wrapK (by omega)]; done) | (simp; done) | omega) | fail))), 0, .inl rfl, fun i _ h => by omega, rfl⟩ ?_
          rintro _ ⟨k, hk, hok, rfl⟩
          by_cases hlt : k + 1 < at'.length
          · have hlt0 : k < at'.length := by omega
            have hs0 : k < sc.length := by omega
            have hs1 : k + 1 < sc.length := by omega
            have e1 : at'.getD k 0 = at'[k] := by rw [List.getD_eq_getElem?_getD, List.getElem?_eq_getElem (by omega)]; rfl
            have e2 : at'.getD (k + 1) 0 = at'[k + 1] := by rw [List.getD_eq_getElem?_getD, List.getElem?_eq_getElem (by omega)]; rfl
            have e3 : sc.getD k 0 = sc[k] := by rw [List.getD_eq_getElem?_getD, List.getElem?_eq_getElem (by omega)]; rfl
            have e4 : sc.getD (k + 1) 0 = sc[k + 1] := by rw [List.getD_eq_getElem?_getD, List.getElem?_eq_getElem (by omega)]; rfl
            have e5 : IntKind.i64.wrap (((k + 1 : Nat) : Int) - 1) = (k : Int) := by rw [wrap_in (by omega) (by omega)]; omega
            obtain ⟨t, ht, hR⟩ := hRoom k hlt
            have hok2 : RoomP z (at'.getD k 0) (at'.getD (k + 1) 0) cap (sc.getD k 0) (sc.getD (k + 1) 0) → ∀ i, i + 1 < at'.length → i < k + 1 → RoomP z (at'.getD i 0) (at'.getD (i + 1) 0) cap (sc.getD i 0) (sc.getD (i + 1) 0) := fun h i h1 h2 => by
              rcases Nat.lt_or_ge i k with h3 | h3
              · exact hok i h1 h3
              · obtain rfl : i = k := by omega
                exact h
            have hno : ¬ RoomP z (at'.getD k 0) (at'.getD (k + 1) 0) cap (sc.getD k 0) (sc.getD (k + 1) 0) → ¬ ∀ i, i + 1 < at'.length → RoomP z (at'.getD i 0) (at'.getD (i + 1) 0) cap (sc.getD i 0) (sc.getD (i + 1) 0) := fun h h2 => h (h2 k hlt)
            rw [← ht] at hok2 hno
            rw [e1, e2, e3, e4] at hR
            have f1 : at'[k]? = some at'[k] := List.getElem?_eq_getElem hlt0
            have f2 : at'[k + 1]? = some at'[k + 1] := List.getElem?_eq_getElem hlt
            have f3 : sc[k]? = some sc[k] := List.getElem?_eq_getElem hs0
            have f4 : sc[k + 1]? = some sc[k + 1] := List.getElem?_eq_getElem hs1
            clear hRoom e1 e2 e3 e4 ht hok
            obtain ⟨x1, hx1⟩ : ∃ x, at'[k] = x := ⟨_, rfl⟩
            obtain ⟨x2, hx2⟩ : ∃ x, at'[k + 1] = x := ⟨_, rfl⟩
            obtain ⟨x3, hx3⟩ : ∃ x, sc[k] = x := ⟨_, rfl⟩
            obtain ⟨x4, hx4⟩ : ∃ x, sc[k + 1] = x := ⟨_, rfl⟩
            rw [hx1, hx2, hx3, hx4] at hR
            cases t with
            | true =>
              (repeat' (first | simp (maxSteps := 5000000) (implicitDefEqProofs := false) only [ruA, ruB, aEv, aTake, aLoad, aIndex, aLen, aBin, bin2, aUn, un1, ASt.get, aget, ASt.put, ↓reduceIte, reduceCtorEq, Nat.reduceLT, Nat.reduceEqDiff, Nat.reduceAdd, eq_self, ne_eq, dref, dref1, tyA_36, tyS_36, tyE_23, tyE_34, tyA_3, tyS_3, tyA_2, tyS_2, row_at, hlt, hlt0, hs0, hs1, hx1, hx2, hx3, hx4, e5] | (with_reducible refine aIf_split (fun _ => ?_) (fun _ => ?_)) | (with_reducible refine aSel_split (fun _ => ?_) (fun _ => ?_)) | (with_reducible refine aGd_split (fun _ => ?_) (fun _ => ?_)) | (with_reducible refine aDraw_quiet (by kernel_rfl) ?_) | ((with_reducible apply callV); exact (hCap)) | ((with_reducible apply callD); exact (hCap)) | ((with_reducible apply callV); exact (hR)) | ((with_reducible apply callD); exact (hR))))
              all_goals exact roundI (weak_cut1 (by (first | ((simp only [envIn, tabIn, envLt, tabLt, AObj.lt, AV.lt, AV.ltL, ruW, ASt.get, aget, ↓reduceIte, Nat.reduceLT, Nat.reduceEqDiff, eq_self]) <;> (repeat' apply And.intro) <;> first | (rw [wrapK (by omega)]; done) | (simp; done) | omega) | fail))) ⟨k + 1, .inr (by omega), hok2 rfl, rfl⟩ (by simp only [slotN, ruW, ASt.get, aget, ↓reduceIte, Nat.reduceLT, Nat.reduceEqDiff, eq_self]; omega)
            | false =>
              (repeat' (first | simp (maxSteps := 5000000) (implicitDefEqProofs := false) only [ruA, ruB, aEv, aTake, aLoad, aIndex, aLen, aBin, bin2, aUn, un1, ASt.get, aget, ASt.put, aResL, aOne, ↓reduceIte, reduceCtorEq, Nat.reduceLT, Nat.reduceEqDiff, Nat.reduceAdd, eq_self, ne_eq, dref, dref1, tyA_36, tyS_36, tyE_23, tyE_34, tyA_3, tyS_3, tyA_2, tyS_2, row_at, hlt, hlt0, hs0, hs1, hx1, hx2, hx3, hx4, e5] | (with_reducible refine aIf_split (fun _ => ?_) (fun _ => ?_)) | (with_reducible refine aSel_split (fun _ => ?_) (fun _ => ?_)) | (with_reducible refine aGd_split (fun _ => ?_) (fun _ => ?_)) | (with_reducible refine aDraw_quiet (by kernel_rfl) ?_) | ((with_reducible apply callV); exact (hCap)) | ((with_reducible apply callD); exact (hCap)) | ((with_reducible apply callV); exact (hR)) | ((with_reducible apply callD); exact (hR))))
              all_goals exact retV ⟨false, rfl, by simpa using fun _ _ => hno (by simp)⟩
          · (repeat' (first | simp (maxSteps := 5000000) (implicitDefEqProofs := false) only [ruA, ruB, aEv, aLen, aBin, bin2, ASt.get, aget, ASt.put, aResL, aOne, ↓reduceIte, Nat.reduceLT, Nat.reduceEqDiff, eq_self, ne_eq, tyE_34, hlt] | (with_reducible refine aIf_split (fun _ => ?_) (fun _ => ?_)) | (with_reducible refine aSel_split (fun _ => ?_) (fun _ => ?_)) | (with_reducible refine aGd_split (fun _ => ?_) (fun _ => ?_)) | (with_reducible refine aDraw_quiet (by kernel_rfl) ?_)))
            all_goals exact retV ⟨true, rfl, by simp; exact ⟨⟨g1, g2⟩, fun i h => hok i h (by omega)⟩⟩
    · have d2 : decide (31 < n) = true := by simpa using g2
      (repeat' (first | simp (maxSteps := 5000000) (implicitDefEqProofs := false) only [ruA, ruB, aEv, aBin, bin2, ASt.get, aget, ASt.put, aBox, aCells, oneC, oneCL, envOf, aResL, aOne, ↓reduceIte, Nat.reduceLT, Nat.reduceEqDiff, Nat.reduceAdd, eq_self, AV.shift, d1, d2] | (with_reducible refine aIf_split (fun _ => ?_) (fun _ => ?_)) | (with_reducible refine aSel_split (fun _ => ?_) (fun _ => ?_)) | (with_reducible refine aGd_split (fun _ => ?_) (fun _ => ?_)) | (with_reducible refine aDraw_quiet (by kernel_rfl) ?_) | ((with_reducible apply callT); exact (hS); exact (.inl (by simp [roL, roA])))))
      all_goals exact retV ⟨false, rfl, by simp; omega⟩
  · have d1 : decide (n < 0) = true := by simpa using g1
    (repeat' (first | simp (maxSteps := 5000000) (implicitDefEqProofs := false) only [ruA, ruB, aEv, aBin, bin2, ASt.get, aget, ASt.put, aBox, aCells, oneC, oneCL, envOf, aResL, aOne, ↓reduceIte, Nat.reduceLT, Nat.reduceEqDiff, Nat.reduceAdd, eq_self, AV.shift, d1] | (with_reducible refine aIf_split (fun _ => ?_) (fun _ => ?_)) | (with_reducible refine aSel_split (fun _ => ?_) (fun _ => ?_)) | (with_reducible refine aGd_split (fun _ => ?_) (fun _ => ?_)) | (with_reducible refine aDraw_quiet (by kernel_rfl) ?_) | ((with_reducible apply callT); exact (hS); exact (.inl (by simp [roL, roA])))))
    all_goals exact retV ⟨false, rfl, by simp; omega⟩
end
section
open Go.RowKit
theorem fixI_map (vals c : List Int) (L : List Int) : ∀ k, k ≤ L.length → (fixI (L.map (clsOf vals c)) k).map (fun i => L.getD i 0) = (L.take k).filter fun x => decide (x ∈ sortR c)
  | 0, _ => by simp [fixI]
  | k + 1, h => by
    have ih := fixI_map vals c L k (by omega)
    have hk : k < L.length := by omega
    have hup := (sortR_up c).1
    rw [fixI_snoc _ (by rw [List.length_map]; omega), List.take_succ_eq_append_getElem hk, List.filter_append, ← ih, List.getElem_map]
    have e : L.getD k 0 = L[k] := by rw [List.getD_eq_getElem?_getD, List.getElem?_eq_getElem hk]; rfl
    have hc : (clsOf vals c L[k]).const = constN (sortR c) L[k] (sortR c).length := rfl
    rcases const_in hup L[k] with ⟨h1, h2⟩ | ⟨i, hi, h1, h2⟩
    · rw [if_neg (by rw [hc, h2]; omega)]
      simp [h1]
    · have hm : L[k] ∈ sortR c := h1 ▸ List.getElem_mem hi
      rw [if_pos (by rw [hc, h2]; omega), List.map_append]
      simp [hm, hk]
theorem fix_zone (vals c : List Int) (r : Int) : (fixL (zoneM vals c r)).map (fun i => (numsL vals c).getD i 0) = sortR c := by
  have hL : Up (numsL vals c) := (sortR_up (vals ++ c)).1
  have hm := (sortR_up (vals ++ c)).2
  have hsc := (sortR_up c).1
  have hscm := (sortR_up c).2
  have hin : ∀ x ∈ sortR c, x ∈ numsL vals c := fun x hx => (hm x).2 (List.mem_append_right _ ((hscm x).1 hx))
  have e : fixL (zoneM vals c r) = fixI ((numsL vals c).map (clsOf vals c)) (numsL vals c).length := by
    show fixI (clsL vals c) (clsL vals c).length = _
    unfold clsL
    rw [List.length_map]
  rw [e, fixI_map vals c _ _ (Nat.le_refl _), List.take_length]
  refine up_ext _ _ (List.Pairwise.filter _ hL) hsc fun z => ?_
  simp only [List.mem_filter, decide_eq_true_eq]
  exact ⟨fun h => h.2, fun h => ⟨hin z h, h⟩⟩
theorem gapsN_len (L : List Int) (r : Int) : (gapsN L r L.length).length = L.length - 1 := by simp [gapsN]
theorem gapsN_get (L : List Int) (r : Int) {i : Nat} (h : i + 1 < L.length) : (gapsN L r L.length)[i]? = some (gapV (L.getD i 0) (L.getD (i + 1) 0) (capV r)) := by
  unfold gapsN
  rw [List.getElem?_map, List.getElem?_range (by omega)]
  rfl
theorem gapsPQ_same (z : Zn) (p : Nat) : gapsPQ z p p = [] := by
  unfold gapsPQ
  rw [List.drop_eq_nil_iff, List.length_take]
  omega
theorem gapsPQ_snoc (z : Zn) {p q : Nat} {g : Int} (h : z.gaps[q]? = some g) (hpq : p ≤ q) : gapsPQ z p (q + 1) = gapsPQ z p q ++ [g] := by
  have hq : q < z.gaps.length := (List.getElem?_eq_some_iff.1 h).1
  unfold gapsPQ
  rw [List.take_add_one, h, List.drop_append_of_le_length (by rw [List.length_take]; omega)]
  rfl
theorem room_sum (vals c : List Int) (r : Int) (p : Nat) : ∀ d, p + d < (numsL vals c).length → 0 < d →
    ((d : Int) - 1 + (gapsPQ (zoneM vals c r) p (p + d)).sum ≤ (numsL vals c).getD (p + d) 0 - (numsL vals c).getD p 0 - 1 ∧ 0 ≤ (gapsPQ (zoneM vals c r) p (p + d)).sum) ∧
    ((∃ g ∈ gapsPQ (zoneM vals c r) p (p + d), g = capV r) ∨ (d : Int) - 1 + (gapsPQ (zoneM vals c r) p (p + d)).sum = (numsL vals c).getD (p + d) 0 - (numsL vals c).getD p 0 - 1)
  | 0, _, h => by omega
  | d + 1, hd, _ => by
    have hL : Up (numsL vals c) := (sortR_up (vals ++ c)).1
    have hg := gapsN_get (numsL vals c) r (i := p + d) (by omega)
    have hs := gapsPQ_snoc (zoneM vals c r) (p := p) (q := p + d) hg (by omega)
    have hlt := List.pairwise_iff_getElem.1 hL (p + d) (p + d + 1) (by omega) (by omega) (by omega)
    have e1 : (numsL vals c).getD (p + d) 0 = (numsL vals c)[p + d] := by rw [List.getD_eq_getElem?_getD, List.getElem?_eq_getElem (by omega)]; rfl
    have e2 : (numsL vals c).getD (p + d + 1) 0 = (numsL vals c)[p + d + 1] := by rw [List.getD_eq_getElem?_getD, List.getElem?_eq_getElem (by omega)]; rfl
    rw [← e1, ← e2] at hlt
    have hcap := capV_0 r
    have hgv : gapV ((numsL vals c).getD (p + d) 0) ((numsL vals c).getD (p + d + 1) 0) (capV r) = capV r ∨ gapV ((numsL vals c).getD (p + d) 0) ((numsL vals c).getD (p + d + 1) 0) (capV r) = (numsL vals c).getD (p + d + 1) 0 - (numsL vals c).getD (p + d) 0 - 1 := by
      unfold gapV
      omega
    have hgb : 0 ≤ gapV ((numsL vals c).getD (p + d) 0) ((numsL vals c).getD (p + d + 1) 0) (capV r) ∧ gapV ((numsL vals c).getD (p + d) 0) ((numsL vals c).getD (p + d + 1) 0) (capV r) ≤ (numsL vals c).getD (p + d + 1) 0 - (numsL vals c).getD (p + d) 0 - 1 := by
      unfold gapV
      omega
    generalize gapV ((numsL vals c).getD (p + d) 0) ((numsL vals c).getD (p + d + 1) 0) (capV r) = g at *
    show _ ∧ _
    rw [show p + (d + 1) = p + d + 1 from rfl, hs, List.sum_append, List.sum_singleton]
    have hpush : ((d + 1 : Nat) : Int) = (d : Int) + 1 := by omega
    rw [hpush]
    rcases Nat.eq_zero_or_pos d with rfl | hd0
    · rw [show p + 0 = p from rfl] at *
      rw [gapsPQ_same]
      simp only [List.sum_nil, List.nil_append, List.mem_singleton]
      clear hL hg hs
      refine ⟨by omega, ?_⟩
      rcases hgv with h | h
      · exact .inl ⟨g, rfl, h⟩
      · exact .inr (by omega)
    · obtain ⟨⟨h1, h0⟩, h2⟩ := room_sum vals c r p d (by omega) hd0
      clear hL hg hs
      refine ⟨by omega, ?_⟩
      rcases hgv with h | h
      · exact .inl ⟨g, List.mem_append_right _ (List.mem_singleton.2 rfl), h⟩
      · rcases h2 with ⟨x, hx, h3⟩ | h2
        · exact .inl ⟨x, List.mem_append_left _ hx, h3⟩
        · exact .inr (by omega)
theorem check_zone (vals c : List Int) (r : Int) (hv : vals.length ≤ 31) : CheckP (zoneM vals c r) (vals.length : Int) c r := by
  have hcap := capV_0 r
  have hcl : (zoneM vals c r).cls.length = (numsL vals c).length := by show (clsL vals c).length = _; unfold clsL; rw [List.length_map]
  have hgl : (zoneM vals c r).gaps.length = (numsL vals c).length - 1 := gapsN_len _ r
  refine ⟨⟨⟨by omega, by omega⟩, formed_zone vals c hv, by omega, fun i hi => ?_⟩, fun i hi => ?_⟩
  · rw [hgl] at hi
    have h := gapsN_get (numsL vals c) r (i := i) (by omega)
    have e : (zoneM vals c r).gaps[i] = gapV ((numsL vals c).getD i 0) ((numsL vals c).getD (i + 1) 0) (capV r) := by
      have h2 : (zoneM vals c r).gaps[i]? = some (zoneM vals c r).gaps[i] := List.getElem?_eq_getElem (by omega)
      exact Option.some.inj (h2.symm.trans h)
    rw [e]
    unfold gapV
    omega
  · have hf := fix_zone vals c r
    have hup : (fixL (zoneM vals c r)).Pairwise (· < ·) := fixI_up _ _
    have hlt2 : ∀ j ∈ fixL (zoneM vals c r), j < (zoneM vals c r).cls.length := fun j hj => fixI_mem _ _ hj
    have hval : ∀ j, j < (fixL (zoneM vals c r)).length → (numsL vals c).getD ((fixL (zoneM vals c r)).getD j 0) 0 = (sortR c).getD j 0 := fun j hj => by
      rw [← hf]
      simp [List.getD_eq_getElem?_getD, List.getElem?_map, List.getElem?_eq_getElem hj]
    have a1 := hval i (by omega)
    have a2 := hval (i + 1) hi
    have e1 : (fixL (zoneM vals c r)).getD i 0 = (fixL (zoneM vals c r))[i] := by rw [List.getD_eq_getElem?_getD, List.getElem?_eq_getElem (by omega)]; rfl
    have e2 : (fixL (zoneM vals c r)).getD (i + 1) 0 = (fixL (zoneM vals c r))[i + 1] := by rw [List.getD_eq_getElem?_getD, List.getElem?_eq_getElem (by omega)]; rfl
    have h5 := List.pairwise_iff_getElem.1 hup i (i + 1) (by omega) hi (by omega)
    have h6 := hlt2 _ (List.getElem_mem hi)
    rw [← e1, ← e2] at h5
    rw [← e2, hcl] at h6
    rw [← a1, ← a2]
    clear hf hup hlt2 hval a1 a2 e1 e2
    generalize (fixL (zoneM vals c r)).getD i 0 = p at *
    generalize (fixL (zoneM vals c r)).getD (i + 1) 0 = q at *
    obtain ⟨d, rfl⟩ : ∃ d, q = p + d := ⟨q - p, by omega⟩
    obtain ⟨⟨h1, h0⟩, h2⟩ := room_sum vals c r p d h6 (by omega)
    unfold RoomP
    have ed : ((p + d : Nat) : Int) - (p : Int) - 1 = (d : Int) - 1 := by omega
    rw [ed]
    generalize (gapsPQ (zoneM vals c r) p (p + d)).sum = S at *
    generalize (numsL vals c).getD (p + d) 0 = b at *
    generalize (numsL vals c).getD p 0 = a at *
    have hd : 0 < d := by omega
    by_cases hS : (d : Int) - 1 + S = b - a - 1
    · refine .inl ?_
      unfold gapV
      omega
    · rcases h2 with h2 | h2
      · refine .inr ⟨h2, ?_⟩
        unfold gapV
        omega
      · exact absurd h2 hS
end
section
open Go.RowKit
def liveEnv (st : ASt) (ts : List Nat) : List (Nat × AV) := ts.map fun t => (t, st.get t)
theorem aget_live (st : ASt) (t : Nat) : ∀ ts : List Nat, aget (liveEnv st ts) t = st.get t ∨ aget (liveEnv st ts) t = .any
  | [] => .inr rfl
  | k :: ts => by
    show (if t = k then st.get k else aget (liveEnv st ts) t) = _ ∨ (if t = k then st.get k else aget (liveEnv st ts) t) = _
    split
    · rename_i e
      subst e
      exact .inl rfl
    · exact aget_live st t ts
def aBack (vs : Array Value) (n nx g : Nat) (K : AV → ASt → Prop) (st : ASt) (av : AV) : Prop :=
  match st.tab.get g with
  | some (.ghost vs' env) => vs' = vs ∧ K (av.shift nx) ⟨n, shiftEnv nx env, (g + nx, none) :: st.tab.shift nx, nx + st.next⟩
  | _ => False
def aRetI (P : Program) (rs : List ResultVar) (vs : Array Value) (n nx g : Nat) (K : AV → ASt → Prop) : Exit → ASt → Prop
  | .normal, st => aResL P st rs fun avs => aBack vs n nx g K st (aOne avs)
  | .ret, st => aResL P st rs fun avs => aBack vs n nx g K st (aOne avs)
  | _, _ => False
section
variable {P : Program} {rs : List ResultVar} {vs : Array Value} {n nx g k i : Nat} {K : AV → ASt → Prop} {st : ASt} {o : AObj} {T : ATab}
theorem shiftT_nil : ATab.shift k [] = [] := rfl
theorem shiftT_some : ATab.shift k ((i, some o) :: T) = (i + k, some (o.shift k)) :: ATab.shift k T := rfl
theorem shiftT_none : ATab.shift k ((i, none) :: T) = (i + k, none) :: ATab.shift k T := rfl
end
theorem objLt_mono {n m : Nat} (hnm : n ≤ m) : ∀ {o : AObj}, o.lt n → o.lt m
  | .box _ _, h => ltL_iff.2 fun x hx => AV.lt_mono hnm (ltL_iff.1 h x hx)
  | .row _ _ _, _ => trivial
  | .map _, _ => trivial
  | .ghost _ _, h => envLt_mono hnm h
theorem objLt_shift {n k : Nat} : ∀ {o : AObj}, o.lt n → (o.shift k).lt (k + n)
  | .box _ cells, h => by
    show AV.ltL _ (AV.shiftL k cells)
    rw [shiftL_map]
    refine ltL_iff.2 fun x hx => ?_
    obtain ⟨y, hy, rfl⟩ := List.mem_map.1 hx
    exact lt_shift (ltL_iff.1 h y hy)
  | .row _ _ _, _ => trivial
  | .map _, _ => trivial
  | .ghost _ _, h => envLt_shift h
theorem shift_sz (k : Nat) (o : AObj) : (o.shift k).sz = o.sz := by cases o <;> simp [AObj.shift, AObj.sz, shiftL_map]
theorem envLt_live {cx : Cx} {a : Act} {w : World} {st : ASt} {L : Nat → Value} (h : Conc cx a w st L) : ∀ ts : List Nat, envLt st.next (liveEnv st ts)
  | [] => trivial
  | t :: ts => ⟨(h.env t).2, envLt_live h ts⟩
section
variable {P : Program} {cx : Cx} {a : Act} {w : World} {st : ASt} {L : Nat → Value}
theorem resL_okL (h : Conc cx a w st L) : ∀ (l : List ResultVar) (K : List AV → Prop), aResL P st l K →
    ∃ vs avs, K avs ∧ vs.length = avs.length ∧ AV.ltL st.next avs ∧ (∀ (j : Nat) (v : Value) (av : AV), vs[j]? = some v → avs[j]? = some av → RVx cx w st.tab L v av) ∧
      (l.mapM (resVar a.tmps) : Sem (List Value)).run P w = .ok vs w
  | [], K, hp => ⟨[], [], hp, rfl, trivial, by simp, by simp⟩
  | .tmp t :: l, K, hp => by
    obtain ⟨vs, avs, h1, h2, hl, h3, h4⟩ := resL_okL h l _ hp
    refine ⟨a.tmps.getD t undef :: vs, st.get t :: avs, h1, by simp [h2], ⟨(h.env t).2, hl⟩, fun j v av h5 h6 => ?_, ?_⟩
    · cases j with
      | zero =>
        cases h5
        cases h6
        exact (h.env t).1
      | succ j => exact h3 j v av (by simpa using h5) (by simpa using h6)
    · simp only [List.mapM_cons, resVar, Sem.run_bind, Sem.run_pure, Result.andThen_ok, h4]
  | .cell p ty :: l, K, hp => by
    obtain ⟨u, au, h1, h2, h3, h4⟩ := (load_ok (nx := st.next) h.lay (fun id o hid => (h.young id o hid).2) (h.env p).1 hp).one
    obtain ⟨vs, avs, h5, h6, hl, h7, h8⟩ := resL_okL h l _ h1
    refine ⟨u :: vs, au :: avs, h5, by simp [h6], ⟨h3, hl⟩, fun j v av h9 h10 => ?_, ?_⟩
    · cases j with
      | zero =>
        cases h9
        cases h10
        exact h2
      | succ j => exact h7 j v av (by simpa using h9) (by simpa using h10)
    · have := asAddr_of_load (h4 w (Below.refl _ _))
      simp only [List.mapM_cons, resVar]
      rw [Sem.run_bind, this]
      simp only [Sem.run_bind, Sem.run_pure, Result.andThen_ok, h8]
theorem res_okL {fn : Func} {K : AV → Prop} (h : Conc cx a w st L) (hp : aResL P st fn.results.toList fun avs => K (aOne avs)) : ∃ v av, K av ∧ RVx cx w st.tab L v av ∧ av.lt st.next ∧ (results fn a.tmps).run P w = .ok v w := by
  obtain ⟨vs, avs, h1, h2, hl, h3, h4⟩ := resL_okL h _ _ hp
  have hm : (results fn a.tmps).run P w = .ok (if h : vs.toArray.size = 1 then vs.toArray[0] else .tuple vs.toArray) w := by
    rw [results_eq, Sem.run_bind, Array.mapM_eq_mapM_toList]
    simp only [Sem.run_map, h4]
    rfl
  refine ⟨_, aOne avs, h1, ?_, ?_, hm⟩
  · clear hm h4 h1 hl
    match vs, avs, h2, h3 with
    | [v], [av], _, h3 => exact h3 0 v av rfl rfl
    | [], [], _, h3 => exact .tup _ _ rfl (by simp)
    | v :: v' :: vs, av :: av' :: avs, h2, h3 =>
      simp only [aOne, List.size_toArray, List.length_cons]
      rw [dif_neg (by omega)]
      exact .tup _ _ (by simpa using h2) fun j x av h4 h5 => h3 j x av (by simpa using h4) h5
  · clear hm h4 h1 h3 h2
    match avs, hl with
    | [av], hl => exact hl.1
    | [], hl => exact hl
    | av :: av' :: avs, hl => exact hl
end
def SCZ (P : Program) (c : Code) (t : Nat) (Q : Exit → ASt → Prop) (st : ASt) : Prop := ∀ (cx : Cx) (a : Act) (w : World) (L : Nat → Value), Conc cx a w st L → c.wp P (AfterZ cx a w st.tab L t Q) a w
theorem scz_of {P : Program} (hm : P.follows .mixedOrders = true) {c : Code} {t : Nat} (hz : zCode t c = true) {Q : Exit → ASt → Prop} {st : ASt} (h : aCode P c Q st) : SCZ P c t Q st := fun cx a w L hc => code_okZ hm t c hz Q a w st L hc h
theorem SCZ.weak {P : Program} {c : Code} {t : Nat} {Q : Exit → ASt → Prop} {st st' : ASt} (hw : Weak st st') (h : SCZ P c t Q st') : SCZ P c t Q st := fun cx a w L hc => by
  obtain ⟨L', hc', hz⟩ := weak_fz hw hc
  exact Code.wp_mono (fun e a' w' ⟨st2, L2, h1, h2, h3, h4⟩ => ⟨st2, L2, h1, h2, hz.trans h3, h4⟩) (h cx a w L' hc')
theorem inl_of_scz {P : Program} {f : FuncId} {fn : Func} {c : Code} (hf : P.funcs[f]? = some fn) (hb : fn.body = some c) (hname : (fn.name == "runtime.NumGoroutine") = false) {st : ASt} {avs : List AV} {K : AV → ASt → Prop} {n : Nat} (hnt : fn.ntmps = n) {rs : List ResultVar} (hrs : fn.results = rs.toArray)
    (hn : Nat.ble avs.length n = true) (g : Nat) (ts : List Nat)
    (h : ∀ vs : Array Value, SCZ P c n (aRetI P rs vs st.n st.next g K) ⟨n, envOf 0 avs, (st.next, some (.ghost vs (liveEnv st ts))) :: st.tab, st.next + 1⟩) : aInl P st f avs K := by
  have hn := Nat.le_of_ble_eq_true hn
  subst hnt
  refine ⟨fun vs w => ?_, fun cx a w L vs dst hc hvn hv => ?_⟩
  · have : ¬ fn.name = "runtime.NumGoroutine" := by simpa using hname
    simp [callFunc, Sem.run_bind, hf, this, hb]
  obtain ⟨tab2, ht2⟩ : ∃ tab2 : ATab, tab2 = (st.next, some (.ghost a.tmps (liveEnv st ts))) :: st.tab := ⟨_, rfl⟩
  have hget : ∀ id, tab2.get id = if id = st.next then some (.ghost a.tmps (liveEnv st ts)) else st.tab.get id := fun id => by rw [ht2, ATab.get_cons]
  have hnone : ∀ id o, st.next ≤ id → st.tab.get id = some o → False := fun id o h1 h2 => by have := (hc.young id o h2).1; omega
  have hold : ∀ id, id < st.next → tab2.get id = st.tab.get id ∧ updL L st.next (.bool false) id = L id := fun id hid => ⟨by rw [hget, if_neg (by omega)], by unfold updL; rw [if_neg (by omega)]⟩
  have hLG : updL L st.next (.bool false) st.next = .bool false := by unfold updL; rw [if_pos rfl]
  have hge : ∀ id o, st.next ≤ id → tab2.get id = some o → id = st.next ∧ o = .ghost a.tmps (liveEnv st ts) := fun id o h1 h2 => by
    rw [hget] at h2
    split at h2
    · rename_i e
      cases h2
      exact ⟨e, rfl⟩
    · exact (hnone id o h1 h2).elim
  have hnew : ∀ id o b, st.next ≤ id → tab2.get id = some o → vblk (updL L st.next (.bool false) id) = some b → w.heap.size ≤ b := fun id o b h1 h2 h3 => by
    obtain ⟨rfl, _⟩ := hge id o h1 h2
    rw [hLG] at h3
    cases h3
  have hext := ext_merge (cx := cx) (Below.refl w.heap.size w) hold (fun id o hid => (hc.young id o hid).1) hnew
  have hlay : Lay cx w tab2 (updL L st.next (.bool false)) := lay_merge hc.lay hc.young (Below.refl _ _) hold (fun id o h1 h2 => by
      obtain ⟨rfl, rfl⟩ := hge id o h1 h2
      refine ⟨hLG, fun t ht => ?_⟩
      rcases aget_live st t ts with e | e
      · rw [e]
        exact hext.rv (hc.env t).1 (hc.env t).2
      · rw [e]
        exact .tree (.any _)) hnew fun id id' o o' b h1 h2 h3 h4 _ _ => by rw [(hge id o h1 h3).1, (hge id' o' h2 h4).1]
  have hyoung : ∀ id o, tab2.get id = some o → id < st.next + 1 ∧ o.lt (st.next + 1) := fun id o hid => by
    rcases Nat.lt_or_ge id st.next with hlt | hge'
    · rw [(hold id hlt).1] at hid
      have := hc.young id o hid
      exact ⟨by omega, objLt_mono (Nat.le_succ _) this.2⟩
    · obtain ⟨rfl, rfl⟩ := hge id o hge' hid
      exact ⟨Nat.lt_succ_self _, envLt_mono (Nat.le_succ _) (envLt_live hc ts)⟩
  have hC : Conc cx { tmps := vs ++ Array.replicate (fn.ntmps - vs.size) undef, defers := [] } w ⟨fn.ntmps, envOf 0 avs, tab2, st.next + 1⟩ (updL L st.next (.bool false)) := by
    refine ⟨hlay, ?_, Marks.nil _ _ _, hyoung, fun t => ?_⟩
    · simp
      omega
    have e : (⟨fn.ntmps, envOf 0 avs, tab2, st.next + 1⟩ : ASt).get t = avs.getD t .any := by
      show (if t < fn.ntmps then aget (envOf 0 avs) t else .any) = _
      rw [aget_envOf]
      split
      · simp
      · simp [List.getD, List.getElem?_eq_none (show avs.length ≤ t by omega)]
    rw [e]
    by_cases ht : t < avs.length
    · have ht' : t < vs.size := by omega
      have e2 : (vs ++ Array.replicate (fn.ntmps - vs.size) undef).getD t undef = vs[t] := by
        rw [Array.getD_eq_getD_getElem?, Array.getElem?_append_left ht', Array.getElem?_eq_getElem ht']
        rfl
      have e3 : avs.getD t .any = avs[t] := by simp [List.getD, ht]
      rw [e2, e3]
      have := hv t _ _ (Array.getElem?_eq_getElem ht') (List.getElem?_eq_getElem ht)
      exact ⟨hext.rv this.1 this.2, AV.lt_mono (Nat.le_succ _) this.2⟩
    · have e3 : avs.getD t .any = .any := by simp [List.getD, List.getElem?_eq_none (Nat.le_of_not_lt ht)]
      rw [e3]
      exact ⟨.tree (.any _), trivial⟩
  have hcode := h a.tmps
  rw [← ht2] at hcode
  refine calls_of_wp hf hb (Code.wp_mono (fun ex a' w' ⟨st', L', h1, h2, h3, hA⟩ => ?_) (hcode cx _ w _ hC))
  have hown2 : ∀ b, (∀ id o, st.tab.get id = some o → vblk (L id) ≠ some b) → ∀ id o, tab2.get id = some o → vblk (updL L st.next (.bool false) id) ≠ some b := fun b hb id o hid hg => by
    rcases Nat.lt_or_ge id st.next with hlt | hge'
    · rw [(hold id hlt).1] at hid
      rw [(hold id hlt).2] at hg
      exact hb id o hid hg
    · obtain ⟨rfl, _⟩ := hge id o hge' hid
      rw [hLG] at hg
      cases hg
  have hback : ∀ id o b, tab2.get id = some o → vblk (updL L st.next (.bool false) id) = some b → ∃ id2 o2, st.tab.get id2 = some o2 ∧ vblk (L id2) = some b := fun id o b hid hg => by
    rcases Nat.lt_or_ge id st.next with hlt | hge'
    · rw [(hold id hlt).1] at hid
      rw [(hold id hlt).2] at hg
      exact ⟨id, o, hid, hg⟩
    · obtain ⟨rfl, _⟩ := hge id o hge' hid
      rw [hLG] at hg
      cases hg
  have key : (aResL P st' rs fun avs => aBack a.tmps st.n st.next g K st' (aOne avs)) → a'.defers = [] ∧ ∃ u, (results fn a'.tmps).run P w' = .ok u w' ∧ ∃ v av st'' L'', Ending.returned u = .returned v ∧ K av st'' ∧ Conc cx (a.put dst v) w' (st''.put dst av) L'' ∧ Fr cx w st.tab L st.next w' st''.tab L'' st''.next := fun h1 => by
    obtain ⟨v, av, hbk, hrv, hlv, hrun⟩ := res_okL (K := fun av => aBack a.tmps st.n st.next g K st' av) (fn := fn) h2 (by rw [hrs]; exact h1)
    refine ⟨hA.defers, v, hrun, ?_⟩
    unfold aBack at hbk
    split at hbk
    case h_2 => exact hbk.elim
    rename_i vs' env hg
    obtain ⟨rfl, hK⟩ := hbk
    obtain ⟨_, hgh⟩ := h2.lay.objs g _ hg
    have hghl := (h2.young g _ hg).2
    obtain ⟨tab3, ht3⟩ : ∃ tab3 : ATab, tab3 = (g + st.next, none) :: st'.tab.shift st.next := ⟨_, rfl⟩
    rw [← ht3] at hK
    have hsh : ∀ id, (ATab.shift st.next st'.tab).get id = if id < st.next then none else (st'.tab.get (id - st.next)).map (AObj.shift st.next) := fun id => by
      have := shift_get (tab := []) (k := st.next) (fun id o h => by cases h) st'.tab id
      rw [List.append_nil] at this
      exact this
    have hget3 : ∀ id o, tab3.get id = some o → st.next ≤ id ∧ ∃ o', st'.tab.get (id - st.next) = some o' ∧ o = o'.shift st.next := fun id o hid => by
      rw [ht3, ATab.get_cons] at hid
      split at hid
      · cases hid
      · rw [hsh] at hid
        split at hid
        · cases hid
        · rename_i hlt
          cases ho : st'.tab.get (id - st.next) with
          | none => rw [ho] at hid; cases hid
          | some o' =>
            rw [ho] at hid
            cases hid
            exact ⟨by omega, o', rfl, rfl⟩
    have hS3 : ∀ b, Sx cx w' st'.tab L' b → Sx cx w' tab3 (fun id => L' (id - st.next)) b := fun b hb => ⟨hb.1, hb.2.1, fun id o hid hg => by
      obtain ⟨_, o', h4, _⟩ := hget3 id o hid
      exact hb.2.2 _ o' h4 hg⟩
    have hK3 : ∀ id p, Kx tab3 (fun id => L' (id - st.next)) (id + st.next) = some p → Kx st'.tab L' id = some p := fun id p hk => by
      unfold Kx at *
      cases ho : tab3.get (id + st.next) with
      | none => rw [ho] at hk; cases hk
      | some o =>
        obtain ⟨_, o', h4, h5⟩ := hget3 _ o ho
        rw [Nat.add_sub_cancel] at h4
        rw [ho] at hk
        rw [h4]
        simp only [Option.map_some, Nat.add_sub_cancel, h5, shift_sz] at hk ⊢
        exact hk
    have hrv3 : ∀ {x av}, RVx cx w' st'.tab L' x av → RVx cx w' tab3 (fun id => L' (id - st.next)) x (av.shift st.next) := fun hr => hr.conv (.inl hS3) hK3
    have hlay3 : Lay cx w' tab3 (fun id => L' (id - st.next)) := by
      refine ⟨h2.lay.below, fun id o hid => ?_, fun id id' o o' b h4 h5 h6 h7 => ?_, fun b hb => ⟨(h2.lay.ex b hb).1, fun id o hid => ?_⟩⟩
      · obtain ⟨_, o', h4, rfl⟩ := hget3 id o hid
        have hob := h2.lay.objs _ o' h4
        cases o' with
        | box t cells =>
          obtain ⟨g', cs, h5, h6, h7, h8, h9⟩ := hob
          refine ⟨g', cs, h5, h6, h7, by simpa [shiftL_map] using h8, fun j x av h10 h11 => ?_⟩
          rw [shiftL_map, List.getElem?_map] at h11
          cases hj : cells[j]? with
          | none => simp [hj] at h11
          | some av' =>
            simp [hj] at h11
            subst h11
            exact ⟨hrv3 (h9 j x av' h10 hj).1, (h9 j x av' h10 hj).2⟩
        | row e sz rows =>
          obtain ⟨h5, xs, h6, h7, h8⟩ := hob
          refine ⟨h5, xs, h6, h7, fun i j row av h9 h10 => ?_⟩
          obtain ⟨x, hx, hrt⟩ := h8 i j row av h9 h10
          exact ⟨x, hx, hrt.mono (fun _ _ => rfl) hS3⟩
        | map ents => exact hob
        | ghost vs2 env2 =>
          refine ⟨hob.1, fun t ht => ?_⟩
          rw [shiftEnv_get]
          exact hrv3 (hob.2 t ht)
      · obtain ⟨k1, o1, h8, _⟩ := hget3 id o h4
        obtain ⟨k2, o2, h9, _⟩ := hget3 id' o' h5
        have := h2.lay.sep _ _ o1 o2 b h8 h9 h6 h7
        omega
      · obtain ⟨_, o', h4, _⟩ := hget3 id o hid
        exact (h2.lay.ex b hb).2 _ o' h4
    have hblk : ∀ b, Sx cx w st.tab L b → w'.heap[b]? = w.heap[b]? := fun b hb => h3.keep b hb.1 (hown2 b hb.2.2)
    have hsub : ∀ b, Sx cx w st.tab L b → Sx cx w' tab3 (fun id => L' (id - st.next)) b := fun b hb => ⟨Nat.lt_of_lt_of_le hb.1 h3.size, hb.2.1, fun id o hid hg => by
      obtain ⟨_, o', h4, _⟩ := hget3 id o hid
      obtain ⟨id2, o2, h5, h6⟩ := h3.young _ o' b h4 hg hb.1
      exact hown2 b hb.2.2 id2 o2 h5 h6⟩
    have hC3 : Conc cx a w' ⟨st.n, shiftEnv st.next env, tab3, st.next + st'.next⟩ (fun id => L' (id - st.next)) := by
      refine ⟨hlay3, hc.size, hc.defers.mono hblk hsub, fun id o hid => ?_, fun t => ?_⟩
      · obtain ⟨h4, o', h5, rfl⟩ := hget3 id o hid
        have := h2.young _ o' h5
        refine ⟨?_, objLt_shift this.2⟩
        show id < st.next + st'.next
        omega
      · show RVx cx w' tab3 _ _ (if t < st.n then aget (shiftEnv st.next env) t else .any) ∧ AV.lt _ (if t < st.n then aget (shiftEnv st.next env) t else .any)
        split
        · rename_i htn
          rw [shiftEnv_get]
          exact ⟨hrv3 (hgh t (by rw [hc.size]; exact htn)), lt_shift (envLt_aget hghl t)⟩
        · exact ⟨.tree (.any _), trivial⟩
    refine ⟨v, _, _, _, rfl, hK, conc_pure hC3 (hrv3 hrv) (lt_shift hlv) dst, ⟨⟨hblk, hsub, fun id p hid hk => ?_⟩, h3.size, fun k hk hn => h3.keep k hk (hown2 k hn), fun id o b h4 h5 h6 => ?_, Nat.le_add_right _ _⟩⟩
    · unfold Kx at hk
      cases ho : tab3.get id with
      | none => rw [ho] at hk; cases hk
      | some o =>
        have := (hget3 id o ho).1
        omega
    · obtain ⟨_, o', h7, _⟩ := hget3 id o h4
      obtain ⟨id2, o2, h8, h9⟩ := h3.young _ o' b h7 h5 h6
      exact hback id2 o2 b h8 h9
  cases ex with
  | normal => exact key h1
  | ret => exact key h1
  | _ => exact h1.elim
def aRetS (P : Program) (rs : List ResultVar) (v : Value) (t : TypeId) (us : List Value) : Exit → ASt → Prop
  | .normal, st => aResL P st rs fun avs => aOne avs = .c v ∧ st.tab.get 0 = some (.box t (us.map .c)) ∧ st.get 0 = .op 0 0 0
  | .ret, st => aResL P st rs fun avs => aOne avs = .c v ∧ st.tab.get 0 = some (.box t (us.map .c)) ∧ st.get 0 = .op 0 0 0
  | _, _ => False
theorem aRetS_n {P : Program} {rs : List ResultVar} {v : Value} {t : TypeId} {us : List Value} {st : ASt} : aRetS P rs v t us .normal st = aResL P st rs fun avs => aOne avs = .c v ∧ st.tab.get 0 = some (.box t (us.map .c)) ∧ st.get 0 = .op 0 0 0 := rfl
theorem aRetS_r {P : Program} {rs : List ResultVar} {v : Value} {t : TypeId} {us : List Value} {st : ASt} : aRetS P rs v t us .ret st = aResL P st rs fun avs => aOne avs = .c v ∧ st.tab.get 0 = some (.box t (us.map .c)) ∧ st.get 0 = .op 0 0 0 := rfl
theorem same_of_code {P : Program} (hm : P.follows .mixedOrders = true) {f : FuncId} {fn : Func} {c : Code} (hf : P.funcs[f]? = some fn) (hb : fn.body = some c) (hname : (fn.name == "runtime.NumGoroutine") = false) {n : Nat} (hnt : fn.ntmps = n) {rs : List ResultVar} (hrs : fn.results = rs.toArray)
    {st : ASt} {b t : Nat} {cells : List AV} {rest : List Value} {v : Value} {K : AV → ASt → Prop} (hn : Nat.ble (rest.length + 1) n = true) (hz : zCode 0 c = true) (hid : st.tab.get b = some (.box t cells)) (hk : K (.c v) st)
    (h : ∀ us : List Value, us.length = cells.length → (∀ (j : Nat) (u : Value), cells[j]? = some (AV.c u) → us[j]? = some u) → aCode P c (aRetS P rs v t us) ⟨n, envOf 0 (.op 0 0 0 :: rest.map .c), [(0, some (.box t (us.map .c)))], 1⟩) : aSame P st f (.op b 0 0 :: rest.map .c) K := by
  have hn := Nat.le_of_ble_eq_true hn
  subst hnt
  refine ⟨fun vs w => ?_, v, hk, fun cx a w L vs hc hvn hv => ?_⟩
  · have : ¬ fn.name = "runtime.NumGoroutine" := by simpa using hname
    simp [callFunc, Sem.run_bind, hf, this, hb]
  have hvn' : vs.size = rest.length + 1 := by simpa using hvn
  obtain ⟨g, cs, hLb, hge, hheap, hsz, hcells⟩ := hc.lay.objs b _ hid
  have hgw : g < w.heap.size := (Array.getElem?_eq_some_iff.1 hheap).1
  have hv0 : vs[0]? = some (.pointer (some ⟨g, 0, none⟩)) := by
    have h0 : vs[0]? = some vs[0] := Array.getElem?_eq_getElem (by omega)
    obtain ⟨g', hg', he⟩ := (hv 0 _ _ h0 rfl).op_inv _ _ (kx_of hid)
    rw [hLb] at hg'
    cases hg'
    rw [h0, he]
    simp
  have hvr : ∀ (j : Nat) (x u : Value), vs[j + 1]? = some x → rest[j]? = some u → x = u := fun j x u h1 h2 => by
    have := hv (j + 1) x (.c u) h1 (by simp [h2])
    exact this.c_inv
  have hus : ∀ (j : Nat) (u : Value), cells[j]? = some (.c u) → cs.toList[j]? = some u := fun j u hj => by
    have hlt : j < cs.size := by
      have := (List.getElem?_eq_some_iff.1 hj).1
      omega
    have h0 : cs[j]? = some cs[j] := Array.getElem?_eq_getElem hlt
    have := (hcells j _ _ h0 hj).1.c_inv
    rw [Array.getElem?_toList, h0, this]
  obtain ⟨tab2, ht2⟩ : ∃ tab2 : ATab, tab2 = [(0, some (.box t (cs.toList.map .c)))] := ⟨_, rfl⟩
  have hget : ∀ id o, tab2.get id = some o → id = 0 ∧ o = .box t (cs.toList.map .c) := fun id o ho => by
    rw [ht2, ATab.get_cons] at ho
    split at ho
    · cases ho
      exact ⟨by assumption, rfl⟩
    · cases ho
  have hlay : Lay cx w tab2 (fun _ => .pointer (some ⟨g, 0, none⟩)) := by
    refine ⟨hc.lay.below, fun id o ho => ?_, fun id id' o o' g' h1 h2 _ _ => by rw [(hget id o h1).1, (hget id' o' h2).1], fun k hX => ⟨(hc.lay.ex k hX).1, fun id o ho hg => ?_⟩⟩
    · obtain ⟨rfl, rfl⟩ := hget id o ho
      refine ⟨g, cs, rfl, hge, hheap, by simp, fun j x av h1 h2 => ?_⟩
      rw [List.getElem?_map, Array.getElem?_toList, h1] at h2
      cases h2
      refine ⟨.tree (.c x), ?_⟩
      have hlt : j < cells.length := by
        have := (Array.getElem?_eq_some_iff.1 h1).1
        omega
      exact (hcells j x _ h1 (List.getElem?_eq_getElem hlt)).2
    · refine (hc.lay.ex k hX).2 b _ hid ?_
      rw [hLb]
      exact hg
  have hC : Conc cx { tmps := vs ++ Array.replicate (fn.ntmps - vs.size) undef, defers := [] } w ⟨fn.ntmps, envOf 0 (.op 0 0 0 :: rest.map .c), tab2, 1⟩ (fun _ => .pointer (some ⟨g, 0, none⟩)) := by
    refine ⟨hlay, ?_, Marks.nil _ _ _, fun id o ho => ?_, fun k => ?_⟩
    · simp
      omega
    · obtain ⟨rfl, rfl⟩ := hget id o ho
      refine ⟨Nat.zero_lt_one, ltL_iff.2 fun x hx => ?_⟩
      obtain ⟨y, _, rfl⟩ := List.mem_map.1 hx
      trivial
    have e : (⟨fn.ntmps, envOf 0 (.op 0 0 0 :: rest.map .c), tab2, 1⟩ : ASt).get k = (AV.op 0 0 0 :: rest.map .c).getD k .any := by
      show (if k < fn.ntmps then aget (envOf 0 (.op 0 0 0 :: rest.map .c)) k else .any) = _
      rw [aget_envOf]
      split
      · simp
      · simp [List.getD, List.getElem?_eq_none (show (AV.op 0 0 0 :: rest.map AV.c).length ≤ k by simp; omega)]
    rw [e]
    by_cases hlt : k < rest.length + 1
    · have ht' : k < vs.size := by omega
      have e2 : (vs ++ Array.replicate (fn.ntmps - vs.size) undef).getD k undef = vs[k] := by
        rw [Array.getD_eq_getD_getElem?, Array.getElem?_append_left ht', Array.getElem?_eq_getElem ht']
        rfl
      rw [e2]
      cases k with
      | zero =>
        have e3 : vs[0] = .pointer (some ⟨g, 0, none⟩) := by
          have h0 : vs[0]? = some vs[0] := Array.getElem?_eq_getElem (by omega)
          exact Option.some.inj (h0.symm.trans hv0)
        rw [e3]
        exact ⟨.op _ 0 0 0 fun sz v' hk => by
          simp [Kx, ht2, ATab.get_cons] at hk
          rw [← hk.2]
          exact ⟨g, rfl, by simp⟩, Nat.zero_lt_one⟩
      | succ k =>
        have hr : k < rest.length := by omega
        have e4 : (AV.op 0 0 0 :: rest.map AV.c).getD (k + 1) .any = .c rest[k] := by simp [List.getD, hr]
        rw [e4, hvr k _ _ (Array.getElem?_eq_getElem ht') (List.getElem?_eq_getElem hr)]
        exact ⟨.tree (.c _), trivial⟩
    · have e3 : (AV.op 0 0 0 :: rest.map AV.c).getD k .any = .any := by simp [List.getD, List.getElem?_eq_none (show (AV.op 0 0 0 :: rest.map AV.c).length ≤ k by simp; omega)]
      rw [e3]
      exact ⟨.tree (.any _), trivial⟩
  have hcode := h cs.toList (by simpa using hsz) hus
  rw [← ht2] at hcode
  refine calls_of_wp hf hb (Code.wp_mono (fun ex a' w' ⟨st', L', h1, h2, h3, hA⟩ => ?_) (code_okZ hm 0 c hz _ _ w _ _ hC hcode))
  have h50 : a'.tmps.getD 0 undef = .pointer (some ⟨g, 0, none⟩) := by
    rw [hA.slots 0 rfl, Array.getD_eq_getD_getElem?, Array.getElem?_append_left (by omega), hv0]
    rfl
  have key : (aResL P st' rs fun avs => aOne avs = .c v ∧ st'.tab.get 0 = some (.box t (cs.toList.map .c)) ∧ st'.get 0 = .op 0 0 0) → a'.defers = [] ∧ ∃ u, (results fn a'.tmps).run P w' = .ok u w' ∧ Ending.returned u = .returned v ∧ Below w.heap.size w w' := fun h1 => by
    obtain ⟨u, av, ⟨hav, h6, h7⟩, hrv, hrun⟩ := res_ok (K := fun av => av = .c v ∧ st'.tab.get 0 = some (.box t (cs.toList.map .c)) ∧ st'.get 0 = .op 0 0 0) (fn := fn) h2 (by rw [hrs]; exact h1)
    subst hav
    obtain rfl := hrv.c_inv
    refine ⟨hA.defers, u, hrun, rfl, h2.lay.below.os.trans hc.lay.below.os.symm, h2.lay.below.tape.trans hc.lay.below.tape.symm, h2.lay.below.output.trans hc.lay.below.output.symm, h3.size, fun k hk => ?_⟩
    by_cases hkg : k = g
    · subst hkg
      obtain ⟨g2, cs2, hL2, _, hheap2, hsz2, hcells2⟩ := h2.lay.objs 0 _ h6
      have hr := (h2.env 0).1
      rw [h7, h50] at hr
      obtain ⟨g3, hg3, he⟩ := hr.op_inv _ _ (kx_of h6)
      rw [hL2] at hg3
      cases hg3
      simp at he
      subst he
      rw [hheap, hheap2]
      have hcs : cs2 = cs := by
        apply Array.ext
        · simpa using hsz2
        · intro j h8 h9
          have h10 : cs2[j]? = some cs2[j] := Array.getElem?_eq_getElem h8
          exact (hcells2 j _ (.c cs[j]) h10 (by rw [List.getElem?_map, Array.getElem?_toList, Array.getElem?_eq_getElem h9]; rfl)).1.c_inv
      rw [hcs]
    · refine h3.keep k hk fun id o ho hg => ?_
      cases hg
      exact hkg rfl
  cases ex with
  | normal => exact key h1
  | ret => exact key h1
  | _ => exact h1.elim
theorem callSame {u : Bool} {P : Program} {st : ASt} {f : FuncId} {avs : List AV} {K : AV → ASt → Prop} (h : aSame P st f avs K) : aCall u P st f avs K := .inl (.inr h)
theorem callI {P : Program} {st : ASt} {f : FuncId} {avs : List AV} {K : AV → ASt → Prop} (h : aInl P st f avs K) : aCall true P st f avs K := .inr ⟨rfl, .inl (.inr (.inr h))⟩
end
section
open Go.RowKit
set_option maxRecDepth 100000 in
set_option maxHeartbeats 8000000 in
theorem numAdd_A (a b : Int) (ha : ok64 a) (hb : ok64 b) (h : ok64 (a + b)) : ADet Tryz.prog 93 [eI a, eI b] ⟨.tup [eI (a + b), eB true], [], 0⟩ := by
  have hw : IntKind.i64.wrap (a + b) = a + b := wrap_in h.1 h.2
  refine adet_of_code mixedT Tryz.func93 rfl (by decide) Tryz.ntmps93 Tryz.results93 rfl (⟨fun id o h => (by cases h), ⟨trivial, trivial, trivial⟩⟩) ?_
  have hc : (decide (a < 0) == decide (b < 0) && decide (a + b < 0) != decide (a < 0)) = false := by
    by_cases h1 : a < 0 <;> by_cases h2 : b < 0 <;> by_cases h3 : a + b < 0 <;> simp [h1, h2, h3] <;> omega
  by_cases h1 : a < 0
  · have d1 : decide (a < 0) = true := by simpa using h1
    by_cases h2 : b < 0
    · have d2 : decide (b < 0) = true := by simpa using h2
      have d3 : decide (a + b < 0) = true := by
        rw [d1, d2] at hc
        cases hd : decide (a + b < 0) with
        | true => rfl
        | false => rw [hd] at hc; cases hc
      have e1 : (true == true) = true := rfl
      have e2 : (true != true) = false := rfl
      (repeat' (first | simp (maxSteps := 5000000) (implicitDefEqProofs := false) only [ruA, ruB, aEv, aBin, bin2, ASt.get, aget, ASt.put, envOf, aResL, aOne, ↓reduceIte, reduceCtorEq, Nat.reduceLT, Nat.reduceEqDiff, eq_self, tyK_4, hw, d1, d2, d3, e1] | (with_reducible refine aIf_split (fun _ => ?_) (fun _ => ?_)) | (with_reducible refine aSel_split (fun _ => ?_) (fun _ => ?_)) | (with_reducible refine aGd_split (fun _ => ?_) (fun _ => ?_)) | (with_reducible refine aDraw_quiet (by kernel_rfl) ?_)))
      all_goals first
        | exact ⟨[], by simp, rfl, trivial⟩
        | trace_state
    · have d2 : decide (b < 0) = false := by simpa using h2
      have e1 : (true == false) = false := rfl
      (repeat' (first | simp (maxSteps := 5000000) (implicitDefEqProofs := false) only [ruA, ruB, aEv, aBin, bin2, ASt.get, aget, ASt.put, envOf, aResL, aOne, ↓reduceIte, reduceCtorEq, Nat.reduceLT, Nat.reduceEqDiff, eq_self, tyK_4, hw, d1, d2, e1] | (with_reducible refine aIf_split (fun _ => ?_) (fun _ => ?_)) | (with_reducible refine aSel_split (fun _ => ?_) (fun _ => ?_)) | (with_reducible refine aGd_split (fun _ => ?_) (fun _ => ?_)) | (with_reducible refine aDraw_quiet (by kernel_rfl) ?_)))
      all_goals first
        | exact ⟨[], by simp, rfl, trivial⟩
        | trace_state
  · have d1 : decide (a < 0) = false := by simpa using h1
    by_cases h2 : b < 0
    · have d2 : decide (b < 0) = true := by simpa using h2
      have e1 : (false == true) = false := rfl
      (repeat' (first | simp (maxSteps := 5000000) (implicitDefEqProofs := false) only [ruA, ruB, aEv, aBin, bin2, ASt.get, aget, ASt.put, envOf, aResL, aOne, ↓reduceIte, reduceCtorEq, Nat.reduceLT, Nat.reduceEqDiff, eq_self, tyK_4, hw, d1, d2, e1] | (with_reducible refine aIf_split (fun _ => ?_) (fun _ => ?_)) | (with_reducible refine aSel_split (fun _ => ?_) (fun _ => ?_)) | (with_reducible refine aGd_split (fun _ => ?_) (fun _ => ?_)) | (with_reducible refine aDraw_quiet (by kernel_rfl) ?_)))
      all_goals first
        | exact ⟨[], by simp, rfl, trivial⟩
        | trace_state
    · have d2 : decide (b < 0) = false := by simpa using h2
      have d3 : decide (a + b < 0) = false := by
        rw [d1, d2] at hc
        cases hd : decide (a + b < 0) with
        | false => rfl
        | true => rw [hd] at hc; cases hc
      have e1 : (false == false) = true := rfl
      have e2 : (false != false) = false := rfl
      (repeat' (first | simp (maxSteps := 5000000) (implicitDefEqProofs := false) only [ruA, ruB, aEv, aBin, bin2, ASt.get, aget, ASt.put, envOf, aResL, aOne, ↓reduceIte, reduceCtorEq, Nat.reduceLT, Nat.reduceEqDiff, eq_self, tyK_4, hw, d1, d2, d3, e1] | (with_reducible refine aIf_split (fun _ => ?_) (fun _ => ?_)) | (with_reducible refine aSel_split (fun _ => ?_) (fun _ => ?_)) | (with_reducible refine aGd_split (fun _ => ?_) (fun _ => ?_)) | (with_reducible refine aDraw_quiet (by kernel_rfl) ?_)))
      all_goals first
        | exact ⟨[], by simp, rfl, trivial⟩
        | trace_state
set_option maxRecDepth 100000 in
set_option maxHeartbeats 8000000 in
theorem add_S {st : ASt} {b : Nat} {x0 x1 x2 x3 : AV} {K : AV → ASt → Prop} (a c : Int) (ha : ok64 a) (hc : ok64 c) (h : ok64 (a + c)) (hid : st.tab.get b = some (.box 102 [x0, x1, x2, x3, eB true])) (hk : K (.c (.int .i64 (a + c))) st) :
    aSame Tryz.prog st 80 [.op b 0 0, eI a, eI c] K := by
  have hA := numAdd_A a c ha hc h
  refine same_of_code mixedT Tryz.func80 rfl (by decide) Tryz.ntmps80 Tryz.results80 (rest := [.int .i64 a, .int .i64 c]) rfl (by kernel_rfl) hid hk fun us hl hu => ?_
  obtain ⟨u0, u1, u2, u3, u4, rfl⟩ : ∃ u0 u1 u2 u3 u4, us = [u0, u1, u2, u3, u4] := by
    match us, hl with
    | [u0, u1, u2, u3, u4], _ => exact ⟨u0, u1, u2, u3, u4, rfl⟩
  have h4 : some u4 = some (.bool true) := hu 4 (.bool true) rfl
  cases h4
  clear hu hl
  (repeat' (first | simp (maxSteps := 5000000) (implicitDefEqProofs := false) only [ruA, ruB, aEv, aTake, aLoad, aField, aExtract, ASt.get, aget, ASt.put, aStore, aCells, oneC, oneCL, Value.cells, Value.oneCell', envOf, aResL, aOne, ↓reduceIte, reduceCtorEq, Nat.reduceLT, Nat.reduceEqDiff, Nat.reduceAdd, eq_self, AV.shift, AV.shiftL, aNil, tyF_102_3, tyA_4, tyS_4, aRetS_r] | (with_reducible refine aIf_split (fun _ => ?_) (fun _ => ?_)) | (with_reducible refine aSel_split (fun _ => ?_) (fun _ => ?_)) | (with_reducible refine aGd_split (fun _ => ?_) (fun _ => ?_)) | (with_reducible refine aDraw_quiet (by kernel_rfl) ?_) | ((with_reducible apply callT); exact (hA); exact (.inl (by simp [roL, roA])))))
  all_goals trace_state
theorem getD_set (l : List Int) (i j : Nat) (v : Int) (h : i < l.length) : (l.set i v).getD j 0 = if i = j then v else l.getD j 0 := by
  simp only [List.getD_eq_getElem?_getD, List.getElem?_set]
  split
  · rename_i e
    subst e
    simp []
  · rfl
def UpP (g : List Int) (p q : Nat) (A A' : List Int) : Prop :=
  A'.length = A.length ∧ (∀ i, i ≤ p ∨ q ≤ i → A'.getD i 0 = A.getD i 0) ∧ ∀ i, p < i → i < q → A'.getD i 0 = A'.getD (i - 1) 0 + (g.getD (i - 1) 0 + 1)
def DnP (g : List Int) (w q : Nat) (A A' : List Int) : Prop :=
  A'.length = A.length ∧ (∀ i, i < w ∨ q ≤ i → A'.getD i 0 = A.getD i 0) ∧ ∀ i, w ≤ i → i < q → A'.getD i 0 = A'.getD (i + 1) 0 + (-(g.getD i 0) - 1)
theorem UpP.start (g : List Int) (p : Nat) (A : List Int) : UpP g p (p + 1) A A := ⟨rfl, fun _ _ => rfl, fun i h1 h2 => by omega⟩
theorem UpP.step {g : List Int} {p k : Nat} {A A' : List Int} (h : UpP g p (p + k + 1) A A') (hl : p + k + 1 < A.length) : UpP g p (p + (k + 1) + 1) A (A'.set (p + k + 1) (A'.getD (p + k) 0 + (g.getD (p + k) 0 + 1))) := by
  obtain ⟨h1, h2, h3⟩ := h
  refine ⟨by rw [List.length_set, h1], fun i hi => ?_, fun i h4 h5 => ?_⟩
  · rw [getD_set _ _ _ _ (by omega), if_neg (by omega)]
    exact h2 i (by omega)
  · rw [getD_set _ _ _ _ (by omega), getD_set _ _ _ _ (by omega), if_neg (by omega : ¬ p + k + 1 = i - 1)]
    split
    · rename_i e
      subst e
      rfl
    · exact h3 i h4 (by omega)
theorem DnP.start (g : List Int) (q : Nat) (A : List Int) : DnP g q q A A := ⟨rfl, fun _ _ => rfl, fun i h1 h2 => by omega⟩
theorem DnP.step {g : List Int} {w q : Nat} {A A' : List Int} (h : DnP g (w + 1) q A A') (hw : w < q) (hl : w < A.length) : DnP g w q A (A'.set w (A'.getD (w + 1) 0 + (-(g.getD w 0) - 1))) := by
  obtain ⟨h1, h2, h3⟩ := h
  refine ⟨by rw [List.length_set, h1], fun i hi => ?_, fun i h4 h5 => ?_⟩
  · rw [getD_set _ _ _ _ (by omega), if_neg (by omega)]
    exact h2 i (by omega)
  · rw [getD_set _ _ _ _ (by omega), getD_set _ _ _ _ (by omega), if_neg (by omega : ¬ w = i + 1)]
    split
    · rename_i e
      subst e
      rfl
    · exact h3 i (by omega) h5
theorem UpP.bound {g : List Int} {p q : Nat} {A A' : List Int} (h : UpP g p q A A') (hpq : p < q) (B : Int) (hg : ∀ i, 0 ≤ g.getD i 0 ∧ g.getD i 0 ≤ B) : ∀ d, p + d < q → A.getD p 0 ≤ A'.getD (p + d) 0 ∧ A'.getD (p + d) 0 ≤ A.getD p 0 + (B + 1) * d
  | 0, _ => by
    have := h.2.1 p (.inl (Nat.le_refl _))
    rw [show p + 0 = p from rfl, this]
    simp
  | d + 1, hd => by
    have ih := h.bound hpq B hg d (by omega)
    have h1 := h.2.2 (p + (d + 1)) (by omega) hd
    rw [show p + (d + 1) - 1 = p + d by omega] at h1
    have h2 := hg (p + d)
    rw [h1]
    rw [Int.natCast_add, Int.mul_add]
    omega
theorem DnP.bound {g : List Int} {w q : Nat} {A A' : List Int} (h : DnP g w q A A') (B : Int) (hg : ∀ i, 0 ≤ g.getD i 0 ∧ g.getD i 0 ≤ B) : ∀ d, w + d ≤ q → d ≤ q → A.getD q 0 - (B + 1) * d ≤ A'.getD (q - d) 0 ∧ A'.getD (q - d) 0 ≤ A.getD q 0
  | 0, _, _ => by
    have := h.2.1 q (.inr (Nat.le_refl _))
    rw [show q - 0 = q from rfl, this]
    simp
  | d + 1, hd, hq => by
    have ih := h.bound B hg d (by omega) (by omega)
    have h1 := h.2.2 (q - (d + 1)) (by omega) (by omega)
    rw [show q - (d + 1) + 1 = q - d by omega] at h1
    have h2 := hg (q - (d + 1))
    rw [h1]
    rw [Int.natCast_add, Int.mul_add]
    omega
theorem gD_at {l : List Int} {i : Nat} (h : i < l.length) : l.getD i 0 = l[i] := by rw [List.getD_eq_getElem?_getD, List.getElem?_eq_getElem h]; rfl
end
section
open Go.RowKit
abbrev sBox (X : List (List AV)) (g : List Int) (cap : Int) (r : Nat) : Option AObj := some (.box 102 [.sl 2 X, sI g, eI cap, .osl r, eB true])
abbrev sRow (A : List Int) : Option AObj := some (.row 2 1 (A.map fun n => [eI n]))
structure SmpOk (g : List Int) (A : List Int) : Prop where
  len : A.length ≤ g.length + 1
  few : A.length ≤ 64
  gap : ∀ i, 0 ≤ g.getD i 0 ∧ g.getD i 0 ≤ 1048576
structure SmpAt (st : ASt) (b a x2 x3 : Nat) (ts : List Nat) (env : List (Nat × AV)) (o2 o3 : Option AObj) (X : List (List AV)) (g : List Int) (cap : Int) (A : List Int) : Prop where
  hb : st.tab.get b = sBox X g cap a
  ha : st.tab.get a = sRow A
  h2 : ∀ o, o2 = some o → st.tab.get x2 = some (o.ren [b, a, x2, x3, st.next]) ∧ o.lt 5
  h3 : ∀ o, o3 = some o → st.tab.get x3 = some (o.ren [b, a, x2, x3, st.next]) ∧ o.lt 5
  nd : [b, a, x2, x3, st.next].Nodup
  he : renEnv [b, a, x2, x3, st.next] env = liveEnv st ts
  el : envLt 5 env
abbrev smpSt (n nx : Nat) (vs : Array Value) (env : List (Nat × AV)) (o2 o3 : Option AObj) (X : List (List AV)) (g : List Int) (cap : Int) (A : List Int) : ASt :=
  ⟨n, shiftEnv nx env, (4 + nx, none) :: ATab.shift nx [(0, sBox X g cap 1), (1, sRow A), (2, o2), (3, o3), (4, some (.ghost vs env))], nx + 5⟩
theorem tabInR_opt {st : ASt} {ids : List Nat} {k : Nat} {o2 : Option AObj} {T : ATab} (h : ∀ o, o2 = some o → k < ids.length ∧ st.tab.get (ids.getD k 0) = some (o.ren ids)) (hT : tabInR st ids T) : tabInR st ids ((k, o2) :: T) := by
  cases o2 with
  | none => exact hT
  | some o => exact ⟨h o rfl, hT⟩
theorem tabLt_opt {nx k : Nat} {o2 : Option AObj} {T : ATab} (h : ∀ o, o2 = some o → k < nx ∧ o.lt nx) (hT : tabLt nx T) : tabLt nx ((k, o2) :: T) := by
  cases o2 with
  | none => exact hT
  | some o => exact ⟨h o rfl, hT⟩
theorem smp_lt {st : ASt} {b a x2 x3 : Nat} {ts : List Nat} {env : List (Nat × AV)} {o2 o3 : Option AObj} {X : List (List AV)} {g : List Int} {cap : Int} {A : List Int} (h : SmpAt st b a x2 x3 ts env o2 o3 X g cap A) (vs : Array Value) :
    tabLt 5 [(2, o2), (3, o3), (4, some (.ghost vs env))] :=
  tabLt_opt (fun o e => ⟨by omega, (h.h2 o e).2⟩) (tabLt_opt (fun o e => ⟨by omega, (h.h3 o e).2⟩) ⟨⟨by omega, h.el⟩, trivial⟩)
theorem smp_weak {st : ASt} {b a x2 x3 : Nat} {ts : List Nat} {env : List (Nat × AV)} {o2 o3 : Option AObj} {X : List (List AV)} {g : List Int} {cap : Int} {A : List Int} (h : SmpAt st b a x2 x3 ts env o2 o3 X g cap A) (vs : Array Value) {n : Nat} {rest : List Value} (hn : rest.length < n) :
    Weak ⟨n, envOf 0 (.op b 0 0 :: rest.map .c), (st.next, some (.ghost vs (liveEnv st ts))) :: st.tab, st.next + 1⟩ ⟨n, envOf 0 (.op 0 0 0 :: rest.map .c), [(0, sBox X g cap 1), (1, sRow A), (2, o2), (3, o3), (4, some (.ghost vs env))], 5⟩ := by
  have hnd := h.nd
  simp only [List.nodup_cons, List.mem_cons, List.not_mem_nil, or_false, not_or] at hnd
  obtain ⟨⟨_, _, _, nb⟩, ⟨_, _, na⟩, ⟨_, n2⟩, n3, _⟩ := hnd
  have hget : ∀ k, k ≠ st.next → ATab.get ((st.next, some (.ghost vs (liveEnv st ts))) :: st.tab) k = st.tab.get k := fun k hk => by rw [ATab.get_cons, if_neg hk]
  have henv : ∀ (l : List Value) (k : Nat), 0 < k → (∀ j, j < l.length → (⟨n, envOf 0 (.op b 0 0 :: rest.map .c), (st.next, some (.ghost vs (liveEnv st ts))) :: st.tab, st.next + 1⟩ : ASt).get (k + j) = .c (l.getD j undef)) → envInR ⟨n, envOf 0 (.op b 0 0 :: rest.map .c), (st.next, some (.ghost vs (liveEnv st ts))) :: st.tab, st.next + 1⟩ [b, a, x2, x3, st.next] (envOf k (l.map .c)) := by
    intro l
    induction l with
    | nil => intro k _ _; trivial
    | cons v l ih =>
      intro k hk hj
      refine ⟨?_, ih (k + 1) (by omega) fun j hjl => ?_⟩
      · show _ = AV.c v
        simpa using hj 0 (by simp)
      · have := hj (j + 1) (by simp; omega)
        rw [show k + 1 + j = k + (j + 1) by omega, this]
        simp
  refine weak_ren [b, a, x2, x3, st.next] h.nd rfl ⟨?_, henv rest 1 (by omega) fun j hj => ?_⟩ ⟨⟨by simp, ?_⟩, ⟨by simp, ?_⟩, tabInR_opt (fun o e => ⟨by simp, ?_⟩) (tabInR_opt (fun o e => ⟨by simp, ?_⟩) ⟨⟨by simp, ?_⟩, trivial⟩)⟩ ⟨?_, ?_⟩ ⟨⟨by omega, ?_⟩, ⟨by omega, trivial⟩, smp_lt h vs⟩
  · show (if 0 < n then aget (envOf 0 (.op b 0 0 :: rest.map .c)) 0 else .any) = _
    rw [if_pos (by omega)]
    rfl
  · show (if 1 + j < n then aget (envOf 0 (.op b 0 0 :: rest.map .c)) (1 + j) else .any) = _
    rw [if_pos (by omega), aget_envOf, if_pos (by omega)]
    rw [show 1 + j - 0 = j + 1 by omega]
    simp [List.getD, hj]
  · simp only [List.getD_cons_zero]
    rw [hget b nb, h.hb]
    rfl
  · simp only [List.getD_cons_succ, List.getD_cons_zero]
    rw [hget a na, h.ha]
    rfl
  · simp only [List.getD_cons_succ, List.getD_cons_zero]
    rw [hget x2 n2, (h.h2 o e).1]
  · simp only [List.getD_cons_succ, List.getD_cons_zero]
    rw [hget x3 n3, (h.h3 o e).1]
  · simp only [List.getD_cons_succ, List.getD_cons_zero]
    show ATab.get ((st.next, _) :: _) st.next = _
    rw [ATab.get_cons, if_pos rfl]
    simp only [AObj.ren, h.he]
  · exact Nat.zero_lt_succ _
  · have : ∀ (l : List Value) (k : Nat), envLt 5 (envOf k (l.map .c)) := by
      intro l
      induction l with
      | nil => intro k; trivial
      | cons v l ih => intro k; exact ⟨trivial, ih _⟩
    exact this rest 1
  · exact ⟨trivial, trivial, trivial, by show 1 < 5; omega, trivial, trivial⟩
theorem smp_num {g A A' : List Int} {p q : Nat} (hs : SmpOk g A) (hA : -4398046511104 ≤ A.getD p 0 ∧ A.getD p 0 ≤ 4398046511104) (h : UpP g p q A A') {k : Nat} (hk : p + k < q) (hq : p + k < A.length) :
    -4611686018427387904 ≤ A'.getD (p + k) 0 ∧ A'.getD (p + k) 0 ≤ 4611686018427387904 := by
  have h1 := h.bound (by omega) 1048576 hs.gap k hk
  have h2 := hs.few
  omega
set_option maxRecDepth 100000 in
set_option maxHeartbeats 16000000 in
theorem up_I {st : ASt} {K : AV → ASt → Prop} {b a x2 x3 : Nat} {ts : List Nat} {env : List (Nat × AV)} {o2 o3 : Option AObj} {X : List (List AV)} {g : List Int} {cap : Int} {A : List Int} (p q : Nat) (h : SmpAt st b a x2 x3 ts env o2 o3 X g cap A) (hs : SmpOk g A) (hp : p ≤ 64) (hq : q ≤ A.length)
    (hA : -4398046511104 ≤ A.getD p 0 ∧ A.getD p 0 ≤ 4398046511104)
    (hk : ∀ vs A', UpP g p (max q (p + 1)) A A' → K (.tup []) (smpSt st.n st.next vs env o2 o3 X g cap A')) :
    aInl Tryz.prog st 52 [.op b 0 0, eI (p : Int), eI (q : Int)] K := by
  refine inl_of_scz Tryz.func52 rfl (by decide) Tryz.ntmps52 Tryz.results52 rfl 4 ts fun vs => SCZ.weak (smp_weak h vs (rest := [.int .i64 (p : Int), .int .i64 (q : Int)]) (by simp)) (scz_of mixedT (by kernel_rfl) ?_)
  have hT := smp_lt h vs
  have hk := hk vs
  have hlen := hs.len
  have hfew := hs.few
  have w1 : IntKind.i64.wrap ((p : Int) + 1) = ((p + 0 + 1 : Nat) : Int) := by rw [wrap_in (by omega) (by omega)]; omega
  (repeat' (first | simp (maxSteps := 5000000) (implicitDefEqProofs := false) only [ruA, ruB, aEv, aBin, bin2, ASt.get, aget, ASt.put, envOf, ↓reduceIte, Nat.reduceLT, Nat.reduceAdd, eq_self, w1] | (with_reducible refine aIf_split (fun _ => ?_) (fun _ => ?_)) | (with_reducible refine aSel_split (fun _ => ?_) (fun _ => ?_)) | (with_reducible refine aGd_split (fun _ => ?_) (fun _ => ?_))))
  refine aLoop_of (fun st => ∃ (k : Nat) (A' : List Int), (k = 0 ∨ p + k + 1 ≤ q) ∧ UpP g p (p + k + 1) A A' ∧ st = ⟨40, [(0, .op 0 0 0), (2, eI (q : Int)), (6, eI ((p + k + 1 : Nat) : Int))], [(0, sBox X g cap 1), (1, sRow A'), (2, o2), (3, o3), (4, some (.ghost vs env))], 5⟩) (fun st => q - slotN st 6) ⟨_, (weak_cut1 (by (first | ((simp only [envIn, tabIn, envLt, tabLt, AObj.lt, AV.lt, AV.ltL, ruW, ASt.get, aget, ↓reduceIte, reduceCtorEq, Nat.reduceLT, Nat.reduceEqDiff, eq_self, hT]) <;> (repeat' apply And.intro) <;> first | (rw [wrapK (by omega)]; done) | (simp; done) | omega) | fail))), 0, A, .inl rfl, UpP.start g p A, rfl⟩ ?_
  rintro _ ⟨k, A', hkq, hU, rfl⟩
  by_cases hlt : p + k + 1 < q
  · have hst := hU.step (by omega)
    obtain ⟨b1, b2⟩ := smp_num hs hA hU (k := k) (by omega) (by omega)
    obtain ⟨g1, g2⟩ := hs.gap (p + k)
    have hl' : A'.length = A.length := hU.1
    have i1 : p + k < A'.length := by omega
    have i2 : p + k < g.length := by omega
    have i3 : p + k + 1 < A'.length := by omega
    rw [gD_at i1, gD_at i2] at hst
    rw [gD_at i1] at b1 b2
    rw [gD_at i2] at g1 g2
    generalize hx : A'[p + k] = x at *
    generalize hy : g[p + k] = y at *
    have w2 : IntKind.i64.wrap (((p + k + 1 : Nat) : Int) - 1) = ((p + k : Nat) : Int) := by rw [wrap_in (by omega) (by omega)]; omega
    have w3 : IntKind.i64.wrap (y + 1) = y + 1 := wrap_in (by omega) (by omega)
    have w4 : IntKind.i64.wrap (((p + k + 1 : Nat) : Int) + 1) = ((p + (k + 1) + 1 : Nat) : Int) := by rw [wrap_in (by omega) (by omega)]; omega
    have d1 : decide (p + k + 1 < q) = true := decide_eq_true (by omega)
    have hset : (A'.map fun n : Int => [eI n]).set (p + k + 1) [eI (x + (y + 1))] = (A'.set (p + k + 1) (x + (y + 1))).map fun n => [eI n] := List.map_set.symm
    (repeat' (first | simp (maxSteps := 5000000) (implicitDefEqProofs := false) only [ruA, ruB, aEv, aBin, bin2, ASt.get, aget, ASt.put, ↓reduceIte, Nat.reduceLT, Nat.reduceEqDiff, eq_self, d1] | (with_reducible refine aIf_split (fun _ => ?_) (fun _ => ?_)) | (with_reducible refine aSel_split (fun _ => ?_) (fun _ => ?_)) | (with_reducible refine aGd_split (fun _ => ?_) (fun _ => ?_))))
    refine aDraw_held [1] [0, 1, 2, 3, 4, 5, 6, 7, 8, 9, 10, 11, 12, 14, 15, 16, 17, 18, 19, 20, 21, 22, 23] (.exec 13 (.exec 24 (.take 25 (.exec 26 .done)))) (by kernel_rfl) (by simp [ATab.get_cons]) ?_
    (repeat' (first | simp (maxSteps := 5000000) (implicitDefEqProofs := false) only [ruA, ruB, aEv, aTake, aLoad, aField, aIndex, aBin, bin2, ASt.get, aget, ASt.put, aCells, oneC, oneCL, treeC, treeL, Value.cells, Value.oneCell', ↓reduceIte, reduceCtorEq, Nat.reduceLT, Nat.reduceEqDiff, Nat.reduceAdd, Nat.reduceLeDiff, eq_self, aExecS, aStoreB, aTakes, aTakeE, aFrom, aMay, aNil, tyF_102_2, tyA_23, tyS_23, tyE_23, tyA_2, tyS_2, tyF_102_0, tyF_36_1, tyA_34, tyS_34, tyE_34, tyA_3, tyS_3, row_at, i1, i2, i3, hx, hy, w2, w3, w4, hset, Int.natCast_nonneg, Int.ofNat_lt] | (with_reducible refine aIf_split (fun _ => ?_) (fun _ => ?_)) | (with_reducible refine aSel_split (fun _ => ?_) (fun _ => ?_)) | (with_reducible refine aGd_split (fun _ => ?_) (fun _ => ?_)) | (with_reducible refine aDraw_quiet (by kernel_rfl) ?_) | (((with_reducible apply callSame); refine add_S x (y + 1) ⟨by omega, by omega⟩ ⟨by omega, by omega⟩ ⟨by omega, by omega⟩ rfl ?_))))
    all_goals exact roundI (weak_cut1 (by (first | ((simp only [envIn, tabIn, envLt, tabLt, AObj.lt, AV.lt, AV.ltL, ruW, ASt.get, aget, ↓reduceIte, reduceCtorEq, Nat.reduceLT, Nat.reduceEqDiff, eq_self, hT]) <;> (repeat' apply And.intro) <;> first | (rw [wrapK (by omega)]; done) | (simp; done) | omega) | fail))) ⟨k + 1, A'.set (p + k + 1) (x + (y + 1)), by omega, hst, rfl⟩ (by simp only [slotN, ruW, ASt.get, aget, ↓reduceIte, Nat.reduceLT, Nat.reduceEqDiff, eq_self]; omega)
  · have d1 : decide (p + k + 1 < q) = false := decide_eq_false (by omega)
    have hmx : max q (p + 1) = p + k + 1 := by omega
    rw [hmx] at hk
    (repeat' (first | simp (maxSteps := 5000000) (implicitDefEqProofs := false) only [ruA, ruB, aEv, aBin, bin2, ASt.get, aget, ASt.put, ↓reduceIte, Nat.reduceLT, Nat.reduceEqDiff, eq_self, d1] | (with_reducible refine aIf_split (fun _ => ?_) (fun _ => ?_)) | (with_reducible refine aSel_split (fun _ => ?_) (fun _ => ?_)) | (with_reducible refine aGd_split (fun _ => ?_) (fun _ => ?_))))
    exact ⟨rfl, hk A' hU⟩
end
end Go.Proofs.YtbahakgmbceflaaGreat
