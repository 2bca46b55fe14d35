/-
  Parts of the proof: W6, W1, Y9, ZC, ZD, NA, NB.
-/
import Derived.Test.YtodbhccfajgekaaGreatDoorNtx11
set_option linter.unusedVariables false
set_option linter.unusedSimpArgs false
namespace Go.Proofs.YtodbhccfajgekaaGreatDoor
section
open Go.RowKit
theorem bs_beq (a b : ByteArray) : (a == b) = decide (a = b) := by
  obtain ⟨x⟩ := a
  obtain ⟨y⟩ := b
  show (x == y) = decide (ByteArray.mk x = ByteArray.mk y)
  by_cases h : x = y
  · subst h
    simp
  · simp [h]
def toB (l : List UInt8) : ByteArray := ⟨l.toArray⟩
theorem toB_data (l : List UInt8) : (toB l).data.toList = l := by simp [toB]
theorem toB_inj {a b : List UInt8} (h : toB a = toB b) : a = b := by
  have := congrArg (fun x : ByteArray => x.data.toList) h
  simpa [toB] using this
theorem toB_append (a b : List UInt8) : toB a ++ toB b = toB (a ++ b) := by
  apply ByteArray.ext
  simp [toB]
theorem itoaB_to (n : Int) : itoaB n = toB (Lib.itoa n) := rfl
theorem size_toB (l : List UInt8) : (toB l).size = l.length := by
  show (toB l).data.size = _
  simp [toB]
theorem clsB_eq (c : Cls) : itoaB c.attrs ++ toB [58] ++ itoaB c.const = toB (clsW c) := by
  rw [itoaB_to, itoaB_to, toB_append, toB_append]
  unfold clsW
  simp
/-- the words, as they stand in memory -/
abbrev rowsW (l : List (List UInt8)) : List (List AV) := (l.map toB).map fun s => [.c (.string s)]
theorem rowsW_append (a b : List (List UInt8)) : rowsW (a ++ b) = rowsW a ++ rowsW b := by simp [rowsW]
def znB (z : Zn) : ByteArray := toB (znText z)
theorem znW_len (z : Zn) : ∀ k, (znW z k).length ≤ 3 * k
  | 0 => by simp [znW]
  | k + 1 => by
    have := znW_len z k
    unfold znW
    rw [List.length_append, List.length_append, List.length_cons]
    split <;> split <;> simp <;> omega
theorem znG_len (z : Zn) : ∀ j, (znG z j).length ≤ 3 * z.cls.length + 2 * j
  | 0 => by have := znW_len z z.cls.length; show (znW z z.cls.length).length ≤ _; omega
  | j + 1 => by
    have := znG_len z j
    unfold znG
    rw [List.length_append]
    simp
    omega
def ClsK (c : Cls) : Prop := ok64 c.attrs ∧ ok64 c.const
theorem wordLen_num {n : Int} (h : ok64 n) : (Lib.itoa n).length ≤ 41 := by have := itoa_len h; omega
theorem wordLen_cls {c : Cls} (h : ClsK c) : (clsW c).length ≤ 41 := by
  have h1 := itoa_len h.1
  have h2 := itoa_len h.2
  unfold clsW
  rw [List.length_append, List.length_cons]
  omega
theorem znW_words (z : Zn) (hc : ∀ c ∈ z.cls, ClsK c) (hg : ∀ n ∈ z.gaps, ok64 n) : ∀ k, k ≤ z.cls.length → ∀ w ∈ znW z k, w.length ≤ 41
  | 0, _ => fun w hw => by cases hw
  | k + 1, hk => fun w hw => by
    unfold znW at hw
    rcases List.mem_append.1 hw with hw | hw
    · exact znW_words z hc hg k (by omega) w hw
    · rcases List.mem_append.1 hw with hw | hw
      · split at hw
        · rw [List.mem_singleton] at hw
          subst hw
          simp
        · cases hw
      · rcases List.mem_cons.1 hw with rfl | hw
        · refine wordLen_cls ?_
          rw [List.getD_eq_getElem?_getD, List.getElem?_eq_getElem (by omega)]
          exact hc _ (List.getElem_mem _)
        · split at hw
          · rename_i h
            rw [List.mem_singleton] at hw
            subst hw
            refine wordLen_num ?_
            rw [List.getD_eq_getElem?_getD, List.getElem?_eq_getElem h]
            exact hg _ (List.getElem_mem _)
          · cases hw
theorem znG_words (z : Zn) (hc : ∀ c ∈ z.cls, ClsK c) (hg : ∀ n ∈ z.gaps, ok64 n) : ∀ j, (j = 0 ∨ z.cls.length + j ≤ z.gaps.length) → ∀ w ∈ znG z j, w.length ≤ 41
  | 0, _ => znW_words z hc hg _ (Nat.le_refl _)
  | j + 1, h => fun w hw => by
    unfold znG at hw
    rcases List.mem_append.1 hw with hw | hw
    · exact znG_words z hc hg j (by omega) w hw
    · rcases List.mem_cons.1 hw with rfl | hw
      · simp
      · rw [List.mem_singleton] at hw
        subst hw
        refine wordLen_num ?_
        rw [List.getD_eq_getElem?_getD, List.getElem?_eq_getElem (by omega)]
        exact hg _ (List.getElem_mem _)
theorem joinT_len : ∀ (l : List (List UInt8)), (∀ w ∈ l, w.length ≤ 41) → (Lib.joinTail [32] l).length ≤ 42 * l.length
  | [], _ => by simp [Lib.joinTail]
  | x :: l, h => by
    have h1 := h x (List.mem_cons_self ..)
    have h2 := joinT_len l fun w hw => h w (List.mem_cons_of_mem _ hw)
    have e : Lib.joinTail [32] (x :: l) = 32 :: (x ++ Lib.joinTail [32] l) := rfl
    rw [e, List.length_cons, List.length_append, List.length_cons]
    omega
theorem join_len (l : List (List UInt8)) (h : ∀ w ∈ l, w.length ≤ 41) : (Lib.join l [32]).length ≤ 42 * l.length := by
  cases l with
  | nil => simp [Lib.join_nil]
  | cons x l =>
    have h1 := h x (List.mem_cons_self ..)
    have h2 := joinT_len l fun w hw => h w (List.mem_cons_of_mem _ hw)
    rw [Lib.join_cons, List.length_append, List.length_cons]
    omega
theorem znText_len (z : Zn) (hc : ∀ c ∈ z.cls, ClsK c) (hg : ∀ n ∈ z.gaps, ok64 n) : (znText z).length ≤ 42 * (3 * z.cls.length + 2 * z.gaps.length) := by
  have h1 := join_len (znWords z) (znG_words z hc hg _ (by omega))
  have h2 := znG_len z (z.gaps.length - z.cls.length)
  change (znWords z).length ≤ _ at h2
  unfold znText
  have : 42 * (znWords z).length ≤ 42 * (3 * z.cls.length + 2 * z.gaps.length) := Nat.mul_le_mul_left _ (by omega)
  omega
set_option maxRecDepth 100000 in
set_option maxHeartbeats 16000000 in
theorem zoneText_A (z : Zn) (h1 : z.cls.length ≤ 1000) (h2 : z.gaps.length ≤ 1000) (hc : ∀ c ∈ z.cls, ClsK c) (hg : ∀ n ∈ z.gaps, ok64 n) : ADet Tryz.prog 12 [.agg (eZn z)] (val (.string (znB z))) := by
  refine adet_of_code mixedT Tryz.func12 rfl (by decide) Tryz.ntmps12 Tryz.results12 rfl (val_ok _) ?_
  have hT : znB z = ⟨(Lib.join (((znWords z).map toB).map (·.data.toList)) ((⟨#[32]⟩ : ByteArray).data.toList)).toArray⟩ := by
    rw [List.map_map]
    have : (znWords z).map ((fun x : ByteArray => x.data.toList) ∘ toB) = znWords z := by
      rw [show ((fun x : ByteArray => x.data.toList) ∘ toB) = id from funext fun l => toB_data l, List.map_id]
    rw [this]
    rfl
  have hlen : (Lib.join (((znWords z).map toB).map (·.data.toList)) ((⟨#[32]⟩ : ByteArray).data.toList)).length ≤ 1000000000 := by
    rw [List.map_map]
    have : (znWords z).map ((fun x : ByteArray => x.data.toList) ∘ toB) = znWords z := by
      rw [show ((fun x : ByteArray => x.data.toList) ∘ toB) = id from funext fun l => toB_data l, List.map_id]
    rw [this]
    have := znText_len z hc hg
    show (znText z).length ≤ _
    omega
  have hWl : (znWords z).length ≤ 10000 := by
    have := znG_len z (z.gaps.length - z.cls.length)
    show (znG z (z.gaps.length - z.cls.length)).length ≤ _
    omega
  have hJ := join_A ((znWords z).map toB) ⟨#[32]⟩ (by rw [List.length_map]; omega) hlen
  rw [← hT] at hJ
  clear hT hlen hWl
  have hW0 : rowsW (znW z 0) = [] := rfl
  (repeat' (first | simp (maxSteps := 5000000) (implicitDefEqProofs := false) only [ruA, ruB, aEv, aTake, aLoad, aField, aLen, ASt.get, aget, ASt.put, aBox, aCells, oneC, oneCL, envOf, ↓reduceIte, reduceCtorEq, Nat.reduceLT, Nat.reduceEqDiff, Nat.reduceAdd, Nat.reduceLeDiff, eq_self, ne_eq, tyF_25_0, tyA_22, tyS_22, tyE_22] | (with_reducible refine aIf_split (fun _ => ?_) (fun _ => ?_)) | (with_reducible refine aSel_split (fun _ => ?_) (fun _ => ?_)) | (with_reducible refine aGd_split (fun _ => ?_) (fun _ => ?_))))
  refine aLoop_of (fun st => ∃ k : Nat, k ≤ z.cls.length ∧ st = ⟨74, [(1, .op 0 0 0), (3, .osl 1), (8, .sl 2 (z.cls.map eCls)), (9, eI (z.cls.length : Int)), (10, eI (k : Int))], [(0, some (.box 25 (eZn z))), (1, some (.row 9 1 (rowsW (znW z k))))], 2⟩) (fun st => z.cls.length - slotN st 10) ⟨_, ((weak_nil 3 9 1 (by simp only [ASt.get, aget, ↓reduceIte, Nat.reduceLT, Nat.reduceEqDiff, eq_self])).trans (weak_ren1 [0, 1] ⟨(by decide), (by (first | ((simp only [envInR, tabInR, envLt, tabLt, AObj.lt, AV.lt, AV.ltL, AV.ren, AV.renL, AObj.ren, List.getD_cons_zero, List.getD_cons_succ, List.length_cons, List.length_nil, ruW, ASt.get, aget, ↓reduceIte, reduceCtorEq, Nat.reduceLT, Nat.reduceEqDiff, Nat.reduceAdd, eq_self, hW0]) <;> (repeat' apply And.intro) <;> first | (rw [wrapK (by omega)]; done) | (simp; done) | omega) | fail))⟩)), 0, Nat.zero_le _, rfl⟩ ?_
  rintro _ ⟨k, hk, rfl⟩
  by_cases hlt : k < z.cls.length
  · have eD : z.cls.getD k ⟨0, 0⟩ = z.cls[k] := by rw [List.getD_eq_getElem?_getD, List.getElem?_eq_getElem hlt]; rfl
    have hck := hc _ (List.getElem_mem hlt)
    have hl := znW_len z k
    have hstep : znW z (k + 1) = znW z k ++ ((if z.gaps.length < k ∧ 0 < k then [[124]] else []) ++ (clsW z.cls[k] :: (if k < z.gaps.length then [Lib.itoa (z.gaps.getD k 0)] else []))) := by rw [← eD]; rfl
    generalize hcx : z.cls[k] = c at *
    have hpa := print_A c.attrs hck.1
    have hpc := print_A c.const hck.2
    have hla := itoa_len hck.1
    have hlc := itoa_len hck.2
    have hcB := clsB_eq c
    have ss1 : (itoaB c.attrs).size + (toB [58]).size ≤ 9223372036854775807 := by rw [itoaB_to, size_toB, size_toB]; simp; omega
    have ss2 : (itoaB c.attrs ++ toB [58]).size + (itoaB c.const).size ≤ 9223372036854775807 := by rw [itoaB_to, itoaB_to, toB_append, size_toB, size_toB, List.length_append]; simp; omega
    have e1 : (if (itoaB c.attrs).size + (toB [58]).size ≤ 9223372036854775807 then some (Value.string (itoaB c.attrs ++ toB [58])) else none) = some (Value.string (itoaB c.attrs ++ toB [58])) := if_pos ss1
    have e2 : (if (itoaB c.attrs ++ toB [58]).size + (itoaB c.const).size ≤ 9223372036854775807 then some (Value.string (itoaB c.attrs ++ toB [58] ++ itoaB c.const)) else none) = some (Value.string (itoaB c.attrs ++ toB [58] ++ itoaB c.const)) := if_pos ss2
    generalize itoaB c.attrs = sa at *
    generalize itoaB c.const = sc at *
    generalize hb : toB (clsW c) = cb at *
    rw [hcB] at e2
    have f58 : (⟨#[58]⟩ : ByteArray) = toB [58] := rfl
    have f124 : (⟨#[124]⟩ : ByteArray) = toB [124] := rfl
    have hrl : (rowsW (znW z k)).length ≤ 3000 := by simp [rowsW]; omega
    by_cases hbar : z.gaps.length < k ∧ 0 < k
    · have n1 : decide (z.gaps.length < k) = true := by simp only [decide_eq_true_eq]; omega
      have n3 : decide (k < z.gaps.length) = false := by simp only [decide_eq_false_iff_not]; omega
      have d1 : decide ((z.gaps.length : Int) < (k : Int)) = true := by simp only [decide_eq_true_eq]; omega
      have d2 : decide ((0 : Int) < (k : Int)) = true := by simp only [decide_eq_true_eq]; omega
      have d3 : decide ((k : Int) < (z.gaps.length : Int)) = false := by simp only [decide_eq_false_iff_not]; omega
      have hst : rowsW (znW z (k + 1)) = rowsW (znW z k) ++ [[.c (.string (toB [124]))]] ++ [[.c (.string cb)]] := by
        rw [hstep, if_pos hbar, if_neg (by omega), rowsW_append, ← hb]
        simp
      (repeat' (first | simp (maxSteps := 5000000) (implicitDefEqProofs := false) only [ruA, ruB, aEv, aTake, aLoad, aField, aIndex, aLen, aBin, bin2, ASt.get, aget, ASt.put, aStore, aBox, aAppend, aBuildSlice, aCells, oneC, oneCL, treeC, treeL, aLit, aDst, aSrc, appTab, Value.cells, Value.oneCell', ↓reduceIte, reduceCtorEq, Nat.reduceLT, Nat.reduceEqDiff, Nat.reduceAdd, Nat.reduceMul, Nat.reduceLeDiff, eq_self, ne_eq, aBuildSlice1, frzs, ownIds, tyE_22, tyA_46, tyS_46, tyZ_46, tyF_25_1, tyA_23, tyS_23, tyE_23, tyR_33, row_at, hlt, hcx, n1, d2, f124] | (with_reducible refine aIf_split (fun _ => ?_) (fun _ => ?_)) | (with_reducible refine aSel_split (fun _ => ?_) (fun _ => ?_)) | (with_reducible refine aGd_split (fun _ => ?_) (fun _ => ?_))))
      repeat (refine ⟨rfl, ?_⟩)
      refine ⟨⟨by omega, by omega⟩, ?_⟩
      refine aDraw_held [4] [0, 1, 2, 5, 6] (.exec 3 (.take 4 (.exec 7 (.take 8 (.exec 9 (.exec 10 (.exec 11 .done))))))) (by kernel_rfl) (by simp [ATab.get_cons]) ?_
      (repeat' (first | simp (maxSteps := 5000000) (implicitDefEqProofs := false) only [ruA, ruB, aEv, aTake, aLoad, aField, aLen, aBin, bin2, ASt.get, aget, ASt.put, aAppend, aBuildSlice, aCells, oneC, oneCL, treeC, treeL, aLit, aDst, aSrc, appTab, Value.cells, Value.oneCell', ↓reduceIte, reduceCtorEq, Nat.reduceLT, Nat.reduceEqDiff, Nat.reduceAdd, Nat.reduceMul, Nat.reduceLeDiff, eq_self, ne_eq, aTakes, aTakeE, aFrom, aFresh, aBuildSlice1, frzs, ownIds, aMay, tyF_25_1, tyA_23, tyS_23, tyE_23, tyR_33, tyF_46_0, tyA_3, tyS_3, tyF_46_1, n3, List.length_append, f58, e1, e2, hcB] | (with_reducible refine aIf_split (fun _ => ?_) (fun _ => ?_)) | (with_reducible refine aSel_split (fun _ => ?_) (fun _ => ?_)) | (with_reducible refine aGd_split (fun _ => ?_) (fun _ => ?_)) | (with_reducible refine aDraw_quiet (by kernel_rfl) ?_) | ((with_reducible apply callV); exact (hpa)) | ((with_reducible apply callD); exact (hpa)) | ((with_reducible apply callV); exact (hpc)) | ((with_reducible apply callD); exact (hpc)) | (with_reducible apply And.intro)))
      all_goals first
        | rfl
        | omega
        | exact roundI (weak_ren1 [0, 6] ⟨(by decide), (by (first | ((simp only [envInR, tabInR, envLt, tabLt, AObj.lt, AV.lt, AV.ltL, AV.ren, AV.renL, AObj.ren, List.getD_cons_zero, List.getD_cons_succ, List.length_cons, List.length_nil, ruW, ASt.get, aget, ↓reduceIte, reduceCtorEq, Nat.reduceLT, Nat.reduceEqDiff, Nat.reduceAdd, eq_self, hst]) <;> (repeat' apply And.intro) <;> first | (rw [wrapK (by omega)]; done) | (simp; done) | omega) | fail))⟩) ⟨k + 1, by omega, rfl⟩ (by simp only [slotN, ruW, ASt.get, aget, ↓reduceIte, Nat.reduceLT, Nat.reduceEqDiff, eq_self]; omega)
        | trace_state
    · have hd : (decide ((z.gaps.length : Int) < (k : Int)) = false) ∨ (decide ((z.gaps.length : Int) < (k : Int)) = true ∧ decide ((0 : Int) < (k : Int)) = false) := by
        simp only [decide_eq_false_iff_not, decide_eq_true_eq]
        omega
      by_cases hgap : k < z.gaps.length
      · have n1 : decide (z.gaps.length < k) = false := by simp only [decide_eq_false_iff_not]; omega
        have n3 : decide (k < z.gaps.length) = true := by simp only [decide_eq_true_eq]; omega
        have d3 : decide ((k : Int) < (z.gaps.length : Int)) = true := by simp only [decide_eq_true_eq]; omega
        have eG : z.gaps.getD k 0 = z.gaps[k] := by rw [List.getD_eq_getElem?_getD, List.getElem?_eq_getElem hgap]; rfl
        have hgk := hg _ (List.getElem_mem hgap)
        have hst : rowsW (znW z (k + 1)) = rowsW (znW z k) ++ [[.c (.string cb)]] ++ [[.c (.string (itoaB z.gaps[k]))]] := by
          rw [hstep, if_neg hbar, if_pos hgap, rowsW_append, ← hb, eG]
          simp
          rfl
        generalize hgx : z.gaps[k] = g at *
        have hpg := print_A g hgk
        have d1 : decide ((z.gaps.length : Int) < (k : Int)) = false := by simp only [decide_eq_false_iff_not]; omega
        (repeat' (first | simp (maxSteps := 5000000) (implicitDefEqProofs := false) only [ruA, ruB, aEv, aTake, aLoad, aField, aIndex, aLen, aBin, bin2, ASt.get, aget, ASt.put, aStore, aBox, aCells, oneC, oneCL, Value.cells, Value.oneCell', ↓reduceIte, reduceCtorEq, Nat.reduceLT, Nat.reduceEqDiff, Nat.reduceAdd, eq_self, ne_eq, tyE_22, tyA_46, tyS_46, tyZ_46, tyF_25_1, tyA_23, tyS_23, tyE_23, row_at, hlt, hcx, n1] | (with_reducible refine aIf_split (fun _ => ?_) (fun _ => ?_)) | (with_reducible refine aSel_split (fun _ => ?_) (fun _ => ?_)) | (with_reducible refine aGd_split (fun _ => ?_) (fun _ => ?_))))
        refine aDraw_held [1] [0, 1, 2, 5, 6] (.exec 3 (.take 4 (.exec 7 (.take 8 (.exec 9 (.exec 10 (.exec 11 .done))))))) (by kernel_rfl) (by simp [ATab.get_cons]) ?_
        (repeat' (first | simp (maxSteps := 5000000) (implicitDefEqProofs := false) only [ruA, ruB, aEv, aTake, aLoad, aField, aIndex, aLen, aBin, bin2, ASt.get, aget, ASt.put, aAppend, aBuildSlice, aCells, oneC, oneCL, treeC, treeL, aLit, aDst, aSrc, appTab, Value.cells, Value.oneCell', ↓reduceIte, reduceCtorEq, Nat.reduceLT, Nat.reduceEqDiff, Nat.reduceAdd, Nat.reduceMul, Nat.reduceLeDiff, eq_self, ne_eq, aTakes, aTakeE, aFrom, aFresh, aBuildSlice1, frzs, ownIds, aMay, tyF_25_1, tyA_23, tyS_23, tyE_23, tyR_33, tyF_46_0, tyA_3, tyS_3, tyF_46_1, row_at, hgap, hgx, List.length_append, f58, e1, e2, hcB] | (with_reducible refine aIf_split (fun _ => ?_) (fun _ => ?_)) | (with_reducible refine aSel_split (fun _ => ?_) (fun _ => ?_)) | (with_reducible refine aGd_split (fun _ => ?_) (fun _ => ?_)) | (with_reducible refine aDraw_quiet (by kernel_rfl) ?_) | ((with_reducible apply callV); exact (hpa)) | ((with_reducible apply callD); exact (hpa)) | ((with_reducible apply callV); exact (hpc)) | ((with_reducible apply callD); exact (hpc)) | ((with_reducible apply callV); exact (hpg)) | ((with_reducible apply callD); exact (hpg)) | (with_reducible apply And.intro)))
        all_goals first
          | rfl
          | omega
          | exact roundI (weak_ren1 [0, 6] ⟨(by decide), (by (first | ((simp only [envInR, tabInR, envLt, tabLt, AObj.lt, AV.lt, AV.ltL, AV.ren, AV.renL, AObj.ren, List.getD_cons_zero, List.getD_cons_succ, List.length_cons, List.length_nil, ruW, ASt.get, aget, ↓reduceIte, reduceCtorEq, Nat.reduceLT, Nat.reduceEqDiff, Nat.reduceAdd, eq_self, hst]) <;> (repeat' apply And.intro) <;> first | (rw [wrapK (by omega)]; done) | (simp; done) | omega) | fail))⟩) ⟨k + 1, by omega, rfl⟩ (by simp only [slotN, ruW, ASt.get, aget, ↓reduceIte, Nat.reduceLT, Nat.reduceEqDiff, eq_self]; omega)
          | trace_state
      · have n3 : decide (k < z.gaps.length) = false := by simp only [decide_eq_false_iff_not]; omega
        have d3 : decide ((k : Int) < (z.gaps.length : Int)) = false := by simp only [decide_eq_false_iff_not]; omega
        have hst : rowsW (znW z (k + 1)) = rowsW (znW z k) ++ [[.c (.string cb)]] := by
          rw [hstep, if_neg hbar, if_neg hgap, rowsW_append, ← hb]
          simp
        rcases hd with d1 | ⟨d1, d2⟩
        · have n1 : decide (z.gaps.length < k) = false := by simp only [decide_eq_false_iff_not] at d1 ⊢; omega
          (repeat' (first | simp (maxSteps := 5000000) (implicitDefEqProofs := false) only [ruA, ruB, aEv, aTake, aLoad, aField, aIndex, aLen, aBin, bin2, ASt.get, aget, ASt.put, aStore, aBox, aCells, oneC, oneCL, Value.cells, Value.oneCell', ↓reduceIte, reduceCtorEq, Nat.reduceLT, Nat.reduceEqDiff, Nat.reduceAdd, eq_self, ne_eq, tyE_22, tyA_46, tyS_46, tyZ_46, tyF_25_1, tyA_23, tyS_23, tyE_23, row_at, hlt, hcx, n1] | (with_reducible refine aIf_split (fun _ => ?_) (fun _ => ?_)) | (with_reducible refine aSel_split (fun _ => ?_) (fun _ => ?_)) | (with_reducible refine aGd_split (fun _ => ?_) (fun _ => ?_))))
          refine aDraw_held [1] [0, 1, 2, 5, 6] (.exec 3 (.take 4 (.exec 7 (.take 8 (.exec 9 (.exec 10 (.exec 11 .done))))))) (by kernel_rfl) (by simp [ATab.get_cons]) ?_
          (repeat' (first | simp (maxSteps := 5000000) (implicitDefEqProofs := false) only [ruA, ruB, aEv, aTake, aLoad, aField, aLen, aBin, bin2, ASt.get, aget, ASt.put, aAppend, aBuildSlice, aCells, oneC, oneCL, treeC, treeL, aLit, aDst, aSrc, appTab, Value.cells, Value.oneCell', ↓reduceIte, reduceCtorEq, Nat.reduceLT, Nat.reduceEqDiff, Nat.reduceAdd, Nat.reduceMul, Nat.reduceLeDiff, eq_self, ne_eq, aTakes, aTakeE, aFrom, aFresh, aBuildSlice1, frzs, ownIds, aMay, tyF_25_1, tyA_23, tyS_23, tyE_23, tyR_33, tyF_46_0, tyA_3, tyS_3, tyF_46_1, n3, f58, e1, e2, hcB] | (with_reducible refine aIf_split (fun _ => ?_) (fun _ => ?_)) | (with_reducible refine aSel_split (fun _ => ?_) (fun _ => ?_)) | (with_reducible refine aGd_split (fun _ => ?_) (fun _ => ?_)) | (with_reducible refine aDraw_quiet (by kernel_rfl) ?_) | ((with_reducible apply callV); exact (hpa)) | ((with_reducible apply callD); exact (hpa)) | ((with_reducible apply callV); exact (hpc)) | ((with_reducible apply callD); exact (hpc)) | (with_reducible apply And.intro)))
          all_goals first
            | rfl
            | omega
            | exact roundI (weak_ren1 [0, 4] ⟨(by decide), (by (first | ((simp only [envInR, tabInR, envLt, tabLt, AObj.lt, AV.lt, AV.ltL, AV.ren, AV.renL, AObj.ren, List.getD_cons_zero, List.getD_cons_succ, List.length_cons, List.length_nil, ruW, ASt.get, aget, ↓reduceIte, reduceCtorEq, Nat.reduceLT, Nat.reduceEqDiff, Nat.reduceAdd, eq_self, hst]) <;> (repeat' apply And.intro) <;> first | (rw [wrapK (by omega)]; done) | (simp; done) | omega) | fail))⟩) ⟨k + 1, by omega, rfl⟩ (by simp only [slotN, ruW, ASt.get, aget, ↓reduceIte, Nat.reduceLT, Nat.reduceEqDiff, eq_self]; omega)
            | trace_state
        · have n1 : decide (z.gaps.length < k) = true := by simp only [decide_eq_true_eq] at d1 ⊢; omega
          (repeat' (first | simp (maxSteps := 5000000) (implicitDefEqProofs := false) only [ruA, ruB, aEv, aTake, aLoad, aField, aIndex, aLen, aBin, bin2, ASt.get, aget, ASt.put, aStore, aBox, aCells, oneC, oneCL, Value.cells, Value.oneCell', ↓reduceIte, reduceCtorEq, Nat.reduceLT, Nat.reduceEqDiff, Nat.reduceAdd, eq_self, ne_eq, tyE_22, tyA_46, tyS_46, tyZ_46, tyF_25_1, tyA_23, tyS_23, tyE_23, row_at, hlt, hcx, n1, d2] | (with_reducible refine aIf_split (fun _ => ?_) (fun _ => ?_)) | (with_reducible refine aSel_split (fun _ => ?_) (fun _ => ?_)) | (with_reducible refine aGd_split (fun _ => ?_) (fun _ => ?_))))
          refine aDraw_held [1] [0, 1, 2, 5, 6] (.exec 3 (.take 4 (.exec 7 (.take 8 (.exec 9 (.exec 10 (.exec 11 .done))))))) (by kernel_rfl) (by simp [ATab.get_cons]) ?_
          (repeat' (first | simp (maxSteps := 5000000) (implicitDefEqProofs := false) only [ruA, ruB, aEv, aTake, aLoad, aField, aLen, aBin, bin2, ASt.get, aget, ASt.put, aAppend, aBuildSlice, aCells, oneC, oneCL, treeC, treeL, aLit, aDst, aSrc, appTab, Value.cells, Value.oneCell', ↓reduceIte, reduceCtorEq, Nat.reduceLT, Nat.reduceEqDiff, Nat.reduceAdd, Nat.reduceMul, Nat.reduceLeDiff, eq_self, ne_eq, aTakes, aTakeE, aFrom, aFresh, aBuildSlice1, frzs, ownIds, aMay, tyF_25_1, tyA_23, tyS_23, tyE_23, tyR_33, tyF_46_0, tyA_3, tyS_3, tyF_46_1, n3, f58, e1, e2, hcB] | (with_reducible refine aIf_split (fun _ => ?_) (fun _ => ?_)) | (with_reducible refine aSel_split (fun _ => ?_) (fun _ => ?_)) | (with_reducible refine aGd_split (fun _ => ?_) (fun _ => ?_)) | (with_reducible refine aDraw_quiet (by kernel_rfl) ?_) | ((with_reducible apply callV); exact (hpa)) | ((with_reducible apply callD); exact (hpa)) | ((with_reducible apply callV); exact (hpc)) | ((with_reducible apply callD); exact (hpc)) | (with_reducible apply And.intro)))
          all_goals first
            | rfl
            | omega
            | exact roundI (weak_ren1 [0, 4] ⟨(by decide), (by (first | ((simp only [envInR, tabInR, envLt, tabLt, AObj.lt, AV.lt, AV.ltL, AV.ren, AV.renL, AObj.ren, List.getD_cons_zero, List.getD_cons_succ, List.length_cons, List.length_nil, ruW, ASt.get, aget, ↓reduceIte, reduceCtorEq, Nat.reduceLT, Nat.reduceEqDiff, Nat.reduceAdd, eq_self, hst]) <;> (repeat' apply And.intro) <;> first | (rw [wrapK (by omega)]; done) | (simp; done) | omega) | fail))⟩) ⟨k + 1, by omega, rfl⟩ (by simp only [slotN, ruW, ASt.get, aget, ↓reduceIte, Nat.reduceLT, Nat.reduceEqDiff, eq_self]; omega)
            | trace_state
  · obtain rfl : k = z.cls.length := by omega
    have hW1 : znW z z.cls.length = znG z 0 := rfl
    rw [hW1]
    (repeat' (first | simp (maxSteps := 5000000) (implicitDefEqProofs := false) only [ruA, ruB, aEv, aTake, aLoad, aField, aLen, aBin, bin2, ASt.get, aget, ASt.put, ↓reduceIte, reduceCtorEq, Nat.reduceLT, Nat.reduceEqDiff, Nat.reduceAdd, Nat.reduceLeDiff, eq_self, ne_eq, tyF_25_0, tyA_22, tyS_22, tyE_22, hlt] | (with_reducible refine aIf_split (fun _ => ?_) (fun _ => ?_)) | (with_reducible refine aSel_split (fun _ => ?_) (fun _ => ?_)) | (with_reducible refine aGd_split (fun _ => ?_) (fun _ => ?_))))
    refine aLoop_of (fun st => ∃ j : Nat, (j = 0 ∨ z.cls.length + j ≤ z.gaps.length) ∧ st = ⟨74, [(1, .op 0 0 0), (3, .osl 1), (6, eI ((z.cls.length + j : Nat) : Int))], [(0, some (.box 25 (eZn z))), (1, some (.row 9 1 (rowsW (znG z j))))], 2⟩) (fun st => z.gaps.length - slotN st 6) ⟨_, (weak_cut1 (by (first | ((simp only [envIn, tabIn, envLt, tabLt, AObj.lt, AV.lt, AV.ltL, ruW, ASt.get, aget, ↓reduceIte, Nat.reduceLT, Nat.reduceEqDiff, eq_self, Nat.add_zero]) <;> (repeat' apply And.intro) <;> first | (rw [wrapK (by omega)]; done) | (simp; done) | omega) | fail))), 0, .inl rfl, rfl⟩ ?_
    rintro _ ⟨j, hj, rfl⟩
    have hlj := znG_len z j
    have hrl : (rowsW (znG z j)).length ≤ 6000 := by
      have hjj : j ≤ 1000 := by omega
      simp [rowsW]
      omega
    by_cases hltj : z.cls.length + j < z.gaps.length
    · have n3 : decide (z.cls.length + j < z.gaps.length) = true := by simp only [decide_eq_true_eq]; omega
      have d3 : decide (((z.cls.length + j : Nat) : Int) < (z.gaps.length : Int)) = true := by simp only [decide_eq_true_eq]; omega
      have eG : z.gaps.getD (z.cls.length + j) 0 = z.gaps[z.cls.length + j] := by rw [List.getD_eq_getElem?_getD, List.getElem?_eq_getElem hltj]; rfl
      have hgk := hg _ (List.getElem_mem hltj)
      have f124 : (⟨#[124]⟩ : ByteArray) = toB [124] := rfl
      have hst : rowsW (znG z (j + 1)) = rowsW (znG z j) ++ [[.c (.string (toB [124]))], [.c (.string (itoaB z.gaps[z.cls.length + j]))]] := by
        rw [← eG]
        show rowsW (znG z j ++ [[124], Lib.itoa _]) = _
        rw [rowsW_append]
        rfl
      have e4 : IntKind.i64.wrap (((z.cls.length + j : Nat) : Int) + 1) = ((z.cls.length + (j + 1) : Nat) : Int) := wrapK (by omega)
      generalize hgx : z.gaps[z.cls.length + j] = g at *
      have hpg := print_A g hgk
      generalize hq : z.cls.length + j = q at *
      (repeat' (first | simp (maxSteps := 5000000) (implicitDefEqProofs := false) only [ruA, ruB, aEv, aTake, aLoad, aField, aIndex, aLen, aBin, bin2, ASt.get, aget, ASt.put, aAppend, aBuildSlice, aCells, oneC, oneCL, treeC, treeL, aLit, aDst, aSrc, appTab, Value.cells, Value.oneCell', ↓reduceIte, reduceCtorEq, Nat.reduceLT, Nat.reduceEqDiff, Nat.reduceAdd, Nat.reduceMul, Nat.reduceLeDiff, eq_self, ne_eq, aBuildSlice1, frzs, ownIds, tyF_25_1, tyA_23, tyS_23, tyE_23, tyR_33, tyA_3, tyS_3, row_at, hltj, hgx, f124] | (with_reducible refine aIf_split (fun _ => ?_) (fun _ => ?_)) | (with_reducible refine aSel_split (fun _ => ?_) (fun _ => ?_)) | (with_reducible refine aGd_split (fun _ => ?_) (fun _ => ?_)) | (with_reducible refine aDraw_quiet (by kernel_rfl) ?_) | ((with_reducible apply callV); exact (hpg)) | ((with_reducible apply callD); exact (hpg)) | (with_reducible apply And.intro)))
      all_goals first
        | rfl
        | omega
        | exact roundI (weak_ren1 [0, 3] ⟨(by decide), (by (first | ((simp only [envInR, tabInR, envLt, tabLt, AObj.lt, AV.lt, AV.ltL, AV.ren, AV.renL, AObj.ren, List.getD_cons_zero, List.getD_cons_succ, List.length_cons, List.length_nil, ruW, ASt.get, aget, ↓reduceIte, reduceCtorEq, Nat.reduceLT, Nat.reduceEqDiff, Nat.reduceAdd, eq_self, hst, e4]) <;> (repeat' apply And.intro) <;> first | (rw [wrapK (by omega)]; done) | (simp; done) | omega) | fail))⟩) ⟨j + 1, by omega, rfl⟩ (by simp only [slotN, ASt.get, aget, ↓reduceIte, Nat.reduceLT, Nat.reduceEqDiff, eq_self]; omega)
        | trace_state
    · have n3 : decide (z.cls.length + j < z.gaps.length) = false := by simp only [decide_eq_false_iff_not]; omega
      have d3 : decide (((z.cls.length + j : Nat) : Int) < (z.gaps.length : Int)) = false := by simp only [decide_eq_false_iff_not]; omega
      have hend : znG z j = znWords z := by
        have : j = z.gaps.length - z.cls.length := by omega
        rw [this]
        rfl
      rw [hend]
      (repeat' (first | simp (maxSteps := 5000000) (implicitDefEqProofs := false) only [ruA, ruB, aEv, aTake, aLoad, aField, aLen, aBin, bin2, ASt.get, aget, ASt.put, aResL, aOne, ↓reduceIte, reduceCtorEq, Nat.reduceLT, Nat.reduceEqDiff, eq_self, ne_eq, tyF_25_1, tyA_23, tyS_23, tyE_23, n3] | (with_reducible refine aIf_split (fun _ => ?_) (fun _ => ?_)) | (with_reducible refine aSel_split (fun _ => ?_) (fun _ => ?_)) | (with_reducible refine aGd_split (fun _ => ?_) (fun _ => ?_)) | (with_reducible refine aDraw_quiet (by kernel_rfl) ?_) | ((with_reducible apply callV); exact (hJ)) | ((with_reducible apply callD); exact (hJ))))
set_option maxRecDepth 100000 in
set_option maxHeartbeats 8000000 in
theorem equalC_A (a b : List Cls) (ha : a.length ≤ 1000000) : ADet Tryz.prog 28 [.sl 2 (a.map eCls), .sl 2 (b.map eCls)] (val (.bool (decide (a = b)))) := by
  refine adet_of_code mixedT Tryz.func28 rfl (by decide) Tryz.ntmps28 Tryz.results28 rfl (val_ok _) ?_
  by_cases hl : a.length = b.length
  · have hl' : (((a.length : Nat) : Int) != ((b.length : Nat) : Int)) = false := by simp [hl]
    (repeat' (first | simp (maxSteps := 5000000) (implicitDefEqProofs := false) only [ruA, ruB, aEv, aLen, aBin, bin2, ASt.get, aget, ASt.put, envOf, ↓reduceIte, reduceCtorEq, Nat.reduceLT, Nat.reduceEqDiff, eq_self, ne_eq, tyE_22, hl'] | (with_reducible refine aIf_split (fun _ => ?_) (fun _ => ?_)) | (with_reducible refine aSel_split (fun _ => ?_) (fun _ => ?_)) | (with_reducible refine aGd_split (fun _ => ?_) (fun _ => ?_)) | (with_reducible refine aDraw_quiet (by kernel_rfl) ?_)))
    refine aLoop_of (fun st => ∃ k : Nat, k ≤ a.length ∧ (∀ i (h1 : i < a.length) (h2 : i < b.length), i < k → a[i] = b[i]) ∧ st = ⟨26, [(0, .sl 2 (a.map eCls)), (1, .sl 2 (b.map eCls)), (12, eI (a.length : Int)), (13, eI (k : Int))], [], 0⟩) (fun st => a.length - slotN st 13) ⟨_, (weak_cut1 (by (first | ((simp only [envIn, tabIn, envLt, tabLt, AV.lt, ruW, ASt.get, aget, ↓reduceIte, reduceCtorEq, Nat.reduceLT, Nat.reduceEqDiff, eq_self]) <;> (repeat' apply And.intro) <;> first | (rw [wrapK (by omega)]; done) | (simp; done) | omega) | fail))), 0, Nat.zero_le _, fun i _ _ h => by omega, rfl⟩ ?_
    rintro _ ⟨k, hk, hs, rfl⟩
    by_cases hlt : k < a.length
    · have hlt2 : k < b.length := by omega
      have hB := clsNe a[k] b[k]
      by_cases hxy : a[k] = b[k]
      · rw [decide_eq_false (by simpa using hxy)] at hB
        obtain ⟨x, hx⟩ : ∃ x, a[k] = x := ⟨_, rfl⟩
        obtain ⟨y, hy⟩ : ∃ y, b[k] = y := ⟨_, rfl⟩
        rw [hx, hy] at hB
        (repeat' (first | simp (maxSteps := 5000000) (implicitDefEqProofs := false) only [ruA, ruB, aEv, aBin, bin2, ASt.get, aget, ASt.put, ↓reduceIte, Nat.reduceLT, Nat.reduceEqDiff, eq_self, hlt] | (with_reducible refine aIf_split (fun _ => ?_) (fun _ => ?_)) | (with_reducible refine aSel_split (fun _ => ?_) (fun _ => ?_)) | (with_reducible refine aGd_split (fun _ => ?_) (fun _ => ?_))))
        refine aDraw_held [] [0, 1, 2, 3, 4, 5, 6, 7, 8] .done (by kernel_rfl) (by simp []) ?_
        (repeat' (first | simp (maxSteps := 5000000) (implicitDefEqProofs := false) only [ruA, ruB, aEv, aTake, aLoad, aIndex, aBin, ASt.get, aget, ASt.put, allC, aBinS, ↓reduceIte, reduceCtorEq, Nat.reduceLT, Nat.reduceEqDiff, Nat.reduceAdd, eq_self, aTakes, aFrom, tyE_22, tyA_46, tyS_46, row_at, hlt, hlt2, hx, hy] | (with_reducible refine aIf_split (fun _ => ?_) (fun _ => ?_)) | (with_reducible refine aSel_split (fun _ => ?_) (fun _ => ?_)) | (with_reducible refine aGd_split (fun _ => ?_) (fun _ => ?_)) | (with_reducible refine aDraw_quiet (by kernel_rfl) ?_)))
        all_goals refine ⟨_, hB, ?_⟩
        all_goals (repeat' (first | simp (maxSteps := 5000000) (implicitDefEqProofs := false) only [ruA, ruB, aEv, aBin, bin2, ASt.get, aget, ASt.put, ↓reduceIte, Nat.reduceLT, Nat.reduceEqDiff, eq_self] | (with_reducible refine aIf_split (fun _ => ?_) (fun _ => ?_)) | (with_reducible refine aSel_split (fun _ => ?_) (fun _ => ?_)) | (with_reducible refine aGd_split (fun _ => ?_) (fun _ => ?_)) | (with_reducible refine aDraw_quiet (by kernel_rfl) ?_)))
        all_goals exact roundI (weak_cut1 (by (first | ((simp only [envIn, tabIn, envLt, tabLt, AV.lt, ruW, ASt.get, aget, ↓reduceIte, reduceCtorEq, Nat.reduceLT, Nat.reduceEqDiff, eq_self]) <;> (repeat' apply And.intro) <;> first | (rw [wrapK (by omega)]; done) | (simp; done) | omega) | fail))) ⟨k + 1, by omega, fun i h1 h2 h3 => (by
          rcases Nat.lt_or_ge i k with h | h
          · exact hs i h1 h2 h
          · obtain rfl : i = k := by omega
            exact hxy), rfl⟩ (by simp only [slotN, ruW, ASt.get, aget, ↓reduceIte, Nat.reduceLT, Nat.reduceEqDiff, eq_self]; omega)
      · rw [decide_eq_true hxy] at hB
        have hno : decide (a = b) = false := decide_eq_false fun e => hxy (by subst e; rfl)
        obtain ⟨x, hx⟩ : ∃ x, a[k] = x := ⟨_, rfl⟩
        obtain ⟨y, hy⟩ : ∃ y, b[k] = y := ⟨_, rfl⟩
        rw [hx, hy] at hB
        rw [hno]
        (repeat' (first | simp (maxSteps := 5000000) (implicitDefEqProofs := false) only [ruA, ruB, aEv, aBin, bin2, ASt.get, aget, ASt.put, ↓reduceIte, Nat.reduceLT, Nat.reduceEqDiff, eq_self, hlt] | (with_reducible refine aIf_split (fun _ => ?_) (fun _ => ?_)) | (with_reducible refine aSel_split (fun _ => ?_) (fun _ => ?_)) | (with_reducible refine aGd_split (fun _ => ?_) (fun _ => ?_))))
        refine aDraw_held [] [0, 1, 2, 3, 4, 5, 6, 7, 8] .done (by kernel_rfl) (by simp []) ?_
        (repeat' (first | simp (maxSteps := 5000000) (implicitDefEqProofs := false) only [ruA, ruB, aEv, aTake, aLoad, aIndex, aBin, ASt.get, aget, ASt.put, allC, aBinS, ↓reduceIte, reduceCtorEq, Nat.reduceLT, Nat.reduceEqDiff, Nat.reduceAdd, eq_self, aTakes, aFrom, tyE_22, tyA_46, tyS_46, row_at, hlt, hlt2, hx, hy] | (with_reducible refine aIf_split (fun _ => ?_) (fun _ => ?_)) | (with_reducible refine aSel_split (fun _ => ?_) (fun _ => ?_)) | (with_reducible refine aGd_split (fun _ => ?_) (fun _ => ?_)) | (with_reducible refine aDraw_quiet (by kernel_rfl) ?_)))
        all_goals refine ⟨_, hB, ?_⟩
        all_goals (repeat' (first | simp (maxSteps := 5000000) (implicitDefEqProofs := false) only [ruA, aEv, ASt.get, aget, ASt.put, aResL, aOne, ↓reduceIte, Nat.reduceLT, eq_self] | (with_reducible refine aIf_split (fun _ => ?_) (fun _ => ?_)) | (with_reducible refine aSel_split (fun _ => ?_) (fun _ => ?_)) | (with_reducible refine aGd_split (fun _ => ?_) (fun _ => ?_)) | (with_reducible refine aDraw_quiet (by kernel_rfl) ?_)))
    · have hab : a = b := list_same hl fun i h1 h2 => hs i h1 h2 (by omega)
      rw [decide_eq_true hab]
      (repeat' (first | simp (maxSteps := 5000000) (implicitDefEqProofs := false) only [ruA, ruB, aEv, aBin, bin2, ASt.get, aget, ASt.put, aResL, aOne, ↓reduceIte, Nat.reduceLT, Nat.reduceEqDiff, eq_self, hlt] | (with_reducible refine aIf_split (fun _ => ?_) (fun _ => ?_)) | (with_reducible refine aSel_split (fun _ => ?_) (fun _ => ?_)) | (with_reducible refine aGd_split (fun _ => ?_) (fun _ => ?_)) | (with_reducible refine aDraw_quiet (by kernel_rfl) ?_)))
  · have hl' : (((a.length : Nat) : Int) != ((b.length : Nat) : Int)) = true := by simp; omega
    rw [decide_eq_false fun e => hl (by rw [e])]
    (repeat' (first | simp (maxSteps := 5000000) (implicitDefEqProofs := false) only [ruA, ruB, aEv, aLen, aBin, bin2, ASt.get, aget, ASt.put, envOf, aResL, aOne, ↓reduceIte, reduceCtorEq, Nat.reduceLT, Nat.reduceEqDiff, eq_self, ne_eq, tyE_22, hl'] | (with_reducible refine aIf_split (fun _ => ?_) (fun _ => ?_)) | (with_reducible refine aSel_split (fun _ => ?_) (fun _ => ?_)) | (with_reducible refine aGd_split (fun _ => ?_) (fun _ => ?_)) | (with_reducible refine aDraw_quiet (by kernel_rfl) ?_)))
theorem zn_iff (a b : Zn) : (decide (a.cls = b.cls) && decide (a.gaps = b.gaps)) = true ↔ a = b := by
  rw [Bool.and_eq_true, decide_eq_true_eq, decide_eq_true_eq]
  exact ⟨fun h => zn_ext h.1 h.2, fun h => by subst h; exact ⟨rfl, rfl⟩⟩
set_option maxRecDepth 100000 in
set_option maxHeartbeats 8000000 in
theorem zoneSame_A (a b : Zn) (h1 : a.cls.length ≤ 1000000) (h2 : a.gaps.length ≤ 1000000) : ADet Tryz.prog 17 [.agg (eZn a), .agg (eZn b)] (val (.bool (decide (a.cls = b.cls) && decide (a.gaps = b.gaps)))) := by
  refine adet_of_code mixedT Tryz.func17 rfl (by decide) Tryz.ntmps17 Tryz.results17 rfl (val_ok _) ?_
  have hC := equalC_A a.cls b.cls h1
  have hG := equalI_A a.gaps b.gaps h2
  (repeat' (first | simp (maxSteps := 5000000) (implicitDefEqProofs := false) only [ruA, ruB, aEv, aTake, aLoad, aField, ASt.get, aget, ASt.put, aBox, aCells, oneC, oneCL, envOf, aResL, aOne, ↓reduceIte, reduceCtorEq, Nat.reduceLT, Nat.reduceEqDiff, Nat.reduceAdd, Nat.reduceLeDiff, eq_self, tyF_25_0, tyA_22, tyS_22, tyF_25_1, tyA_23, tyS_23] | (with_reducible refine aIf_split (fun _ => ?_) (fun _ => ?_)) | (with_reducible refine aSel_split (fun _ => ?_) (fun _ => ?_)) | (with_reducible refine aGd_split (fun _ => ?_) (fun _ => ?_)) | (with_reducible refine aDraw_quiet (by kernel_rfl) ?_) | ((with_reducible apply callV); exact (hC)) | ((with_reducible apply callD); exact (hC)) | ((with_reducible apply callV); exact (hG)) | ((with_reducible apply callD); exact (hG))))
  all_goals grind
end
section
open Go.RowKit
def wasN (c : List Int) (i : Nat) : Int := if i < c.length ∧ 0 < c.getD i 0 then c.getD i 0 else 0
def evN (m : Mod) (c : List Int) (k : Nat) : Int := (max 0 ((m.events[k]?.map (·.times)).getD 0 - wasN c k)).toNat * (((m.events[k]?.map (·.sets.length)).getD 0 : Nat) : Int)
def leftN (m : Mod) (c : List Int) : Nat → Int
  | 0 => 0
  | k + 1 => leftN m c k + evN m c k
theorem wasN_pos (c : List Int) (i : Nat) : 0 ≤ wasN c i := by
  unfold wasN
  split <;> omega
set_option maxRecDepth 100000 in
set_option maxHeartbeats 8000000 in
theorem stateLeftK_A (m : Mod) (c : List Int) (he : m.events.length ≤ 10) (hm : ∀ e ∈ m.events, e.times ≤ 1000 ∧ e.sets.length ≤ 10) (hc : c.length ≤ 1000000) : ADet Tryz.prog 32 [.agg (eMod m), sI c] (val (.int .i64 (leftN m c m.events.length))) := by
  refine adet_of_code mixedT Tryz.func32 rfl (by decide) Tryz.ntmps32 Tryz.results32 rfl (val_ok _) ?_
  (repeat' (first | simp (maxSteps := 5000000) (implicitDefEqProofs := false) only [ruA, ruB, aEv, aTake, aLoad, aField, aLen, ASt.get, aget, ASt.put, aBox, aCells, oneC, oneCL, envOf, ↓reduceIte, reduceCtorEq, Nat.reduceLT, Nat.reduceEqDiff, Nat.reduceAdd, Nat.reduceLeDiff, eq_self, ne_eq, tyF_43_5, tyA_37, tyS_37, tyE_37] | (with_reducible refine aIf_split (fun _ => ?_) (fun _ => ?_)) | (with_reducible refine aSel_split (fun _ => ?_) (fun _ => ?_)) | (with_reducible refine aGd_split (fun _ => ?_) (fun _ => ?_))))
  refine aLoop_of (fun st => ∃ (k : Nat) (n : Int), k ≤ m.events.length ∧ n = leftN m c k ∧ 0 ≤ n ∧ n ≤ 10000 * k ∧ st = ⟨42, [(1, sI c), (5, eI n), (10, .sl 5 (m.events.map eEv)), (11, eI (m.events.length : Int)), (12, eI (k : Int))], [], 0⟩) (fun st => m.events.length - slotN st 12) ⟨_, (weak_cut1 (by (first | ((simp only [envIn, tabIn, envLt, tabLt, AV.lt, ruW, ASt.get, aget, ↓reduceIte, Nat.reduceLT, Nat.reduceEqDiff, eq_self]) <;> (repeat' apply And.intro) <;> first | (rw [wrapK (by omega)]; done) | (simp; done) | omega) | fail))), 0, 0, Nat.zero_le _, rfl, by omega, by omega, rfl⟩ ?_
  rintro _ ⟨k, n, hk, hn, hn0, hn1, rfl⟩
  by_cases hlt : k < m.events.length
  · obtain ⟨e, hev⟩ : ∃ e, m.events[k] = e := ⟨_, rfl⟩
    obtain ⟨ht, hs⟩ := hm e (hev ▸ List.getElem_mem hlt)
    have hw0 := wasN_pos c k
    have hE : evN m c k = (max 0 (e.times - wasN c k)).toNat * (e.sets.length : Int) := by
      unfold evN
      rw [List.getElem?_eq_getElem hlt, hev]
      rfl
    obtain ⟨w, hw⟩ : ∃ w, wasN c k = w := ⟨_, rfl⟩
    rw [hw] at hE hw0
    obtain ⟨J, hJ⟩ : ∃ J, (max 0 (e.times - w)).toNat = J := ⟨_, rfl⟩
    rw [hJ] at hE
    have hJ10 : J ≤ 100000 := by omega
    obtain ⟨S, hS⟩ : ∃ S, e.sets.length = S := ⟨_, rfl⟩
    rw [hS] at hE hs
    have hjs : J * S ≤ 1000 * 10 := Nat.mul_le_mul (by omega) (by omega)
    have hL : leftN m c (k + 1) = n + ((J * S : Nat) : Int) := by rw [leftN, hE, ← hn]; simp
    by_cases hlw : w < e.times
    · have d2 : decide (w < e.times) = true := by simpa using hlw
      have ew0 : IntKind.i64.wrap (e.times - w) = (J : Int) := by rw [wrap_in (by omega) (by omega)]; omega
      have ew1 : IntKind.i64.wrap ((J : Int) * (S : Int)) = ((J * S : Nat) : Int) := by rw [← Int.natCast_mul]; exact wrap_in (by omega) (by omega)
      have ew2 : IntKind.i64.wrap (n + ((J * S : Nat) : Int)) = n + ((J * S : Nat) : Int) := wrap_in (by omega) (by omega)
      by_cases hkc : k < c.length
      · have hmx : max 0 c[k] = w := by
          rw [← hw, wasN, List.getD_eq_getElem?_getD, List.getElem?_eq_getElem hkc]
          simp only [Option.getD_some]
          split <;> omega
        (repeat' (first | simp (maxSteps := 5000000) (implicitDefEqProofs := false) only [ruA, ruB, aEv, aTake, aLoad, aField, aIndex, aLen, aBin, bin2, ASt.get, aget, ASt.put, aStore, aBox, aCells, oneC, oneCL, Value.cells, Value.oneCell', ↓reduceIte, reduceCtorEq, Nat.reduceLT, Nat.reduceEqDiff, Nat.reduceAdd, Nat.reduceLeDiff, eq_self, ne_eq, aMM, tyE_37, tyA_74, tyS_74, tyZ_74, tyE_23, tyA_3, tyS_3, tyF_74_4, tyF_74_3, tyA_23, tyS_23, row_at, hlt, hkc, hev, hmx, hS, d2, ew0, ew1, ew2] | (with_reducible refine aIf_split (fun _ => ?_) (fun _ => ?_)) | (with_reducible refine aSel_split (fun _ => ?_) (fun _ => ?_)) | (with_reducible refine aGd_split (fun _ => ?_) (fun _ => ?_)) | (with_reducible refine aDraw_quiet (by kernel_rfl) ?_)))
        exact roundI (weak_cut1 (by (first | ((simp only [envIn, tabIn, envLt, tabLt, AV.lt, ruW, ASt.get, aget, ↓reduceIte, Nat.reduceLT, Nat.reduceEqDiff, eq_self]) <;> (repeat' apply And.intro) <;> first | (rw [wrapK (by omega)]; done) | (simp; done) | omega) | fail))) ⟨k + 1, n + ((J * S : Nat) : Int), by omega, hL.symm, by omega, by omega, rfl⟩ (by simp only [slotN, ruW, ASt.get, aget, ↓reduceIte, Nat.reduceLT, Nat.reduceEqDiff, eq_self]; omega)
      · obtain rfl : w = 0 := by rw [← hw, wasN, if_neg (fun h => hkc h.1)]
        (repeat' (first | simp (maxSteps := 5000000) (implicitDefEqProofs := false) only [ruA, ruB, aEv, aTake, aLoad, aField, aIndex, aLen, aBin, bin2, ASt.get, aget, ASt.put, aStore, aBox, aCells, oneC, oneCL, Value.cells, Value.oneCell', ↓reduceIte, reduceCtorEq, Nat.reduceLT, Nat.reduceEqDiff, Nat.reduceAdd, Nat.reduceLeDiff, eq_self, ne_eq, tyE_37, tyA_74, tyS_74, tyZ_74, tyE_23, tyA_3, tyS_3, tyF_74_4, tyF_74_3, tyA_23, tyS_23, row_at, hlt, hkc, hev, hS, d2, ew0, ew1, ew2] | (with_reducible refine aIf_split (fun _ => ?_) (fun _ => ?_)) | (with_reducible refine aSel_split (fun _ => ?_) (fun _ => ?_)) | (with_reducible refine aGd_split (fun _ => ?_) (fun _ => ?_)) | (with_reducible refine aDraw_quiet (by kernel_rfl) ?_)))
        exact roundI (weak_cut1 (by (first | ((simp only [envIn, tabIn, envLt, tabLt, AV.lt, ruW, ASt.get, aget, ↓reduceIte, Nat.reduceLT, Nat.reduceEqDiff, eq_self]) <;> (repeat' apply And.intro) <;> first | (rw [wrapK (by omega)]; done) | (simp; done) | omega) | fail))) ⟨k + 1, n + ((J * S : Nat) : Int), by omega, hL.symm, by omega, by omega, rfl⟩ (by simp only [slotN, ruW, ASt.get, aget, ↓reduceIte, Nat.reduceLT, Nat.reduceEqDiff, eq_self]; omega)
    · have d2 : decide (w < e.times) = false := by simpa using hlw
      obtain rfl : J = 0 := by omega
      rw [Nat.zero_mul, Int.natCast_zero, Int.add_zero] at hL
      by_cases hkc : k < c.length
      · have hmx : max 0 c[k] = w := by
          rw [← hw, wasN, List.getD_eq_getElem?_getD, List.getElem?_eq_getElem hkc]
          simp only [Option.getD_some]
          split <;> omega
        (repeat' (first | simp (maxSteps := 5000000) (implicitDefEqProofs := false) only [ruA, ruB, aEv, aTake, aLoad, aField, aIndex, aLen, aBin, bin2, ASt.get, aget, ASt.put, aStore, aBox, aCells, oneC, oneCL, Value.cells, Value.oneCell', ↓reduceIte, reduceCtorEq, Nat.reduceLT, Nat.reduceEqDiff, Nat.reduceAdd, eq_self, ne_eq, aMM, tyE_37, tyA_74, tyS_74, tyZ_74, tyE_23, tyA_3, tyS_3, tyF_74_4, row_at, hlt, hkc, hev, hmx, d2] | (with_reducible refine aIf_split (fun _ => ?_) (fun _ => ?_)) | (with_reducible refine aSel_split (fun _ => ?_) (fun _ => ?_)) | (with_reducible refine aGd_split (fun _ => ?_) (fun _ => ?_)) | (with_reducible refine aDraw_quiet (by kernel_rfl) ?_)))
        exact roundI (weak_cut1 (by (first | ((simp only [envIn, tabIn, envLt, tabLt, AV.lt, ruW, ASt.get, aget, ↓reduceIte, Nat.reduceLT, Nat.reduceEqDiff, eq_self]) <;> (repeat' apply And.intro) <;> first | (rw [wrapK (by omega)]; done) | (simp; done) | omega) | fail))) ⟨k + 1, n, by omega, hL.symm, by omega, by omega, rfl⟩ (by simp only [slotN, ruW, ASt.get, aget, ↓reduceIte, Nat.reduceLT, Nat.reduceEqDiff, eq_self]; omega)
      · obtain rfl : w = 0 := by rw [← hw, wasN, if_neg (fun h => hkc h.1)]
        (repeat' (first | simp (maxSteps := 5000000) (implicitDefEqProofs := false) only [ruA, ruB, aEv, aTake, aLoad, aField, aIndex, aLen, aBin, bin2, ASt.get, aget, ASt.put, aStore, aBox, aCells, oneC, oneCL, Value.cells, Value.oneCell', ↓reduceIte, reduceCtorEq, Nat.reduceLT, Nat.reduceEqDiff, Nat.reduceAdd, eq_self, ne_eq, tyE_37, tyA_74, tyS_74, tyZ_74, tyE_23, tyA_3, tyS_3, tyF_74_4, row_at, hlt, hkc, hev, d2] | (with_reducible refine aIf_split (fun _ => ?_) (fun _ => ?_)) | (with_reducible refine aSel_split (fun _ => ?_) (fun _ => ?_)) | (with_reducible refine aGd_split (fun _ => ?_) (fun _ => ?_)) | (with_reducible refine aDraw_quiet (by kernel_rfl) ?_)))
        exact roundI (weak_cut1 (by (first | ((simp only [envIn, tabIn, envLt, tabLt, AV.lt, ruW, ASt.get, aget, ↓reduceIte, Nat.reduceLT, Nat.reduceEqDiff, eq_self]) <;> (repeat' apply And.intro) <;> first | (rw [wrapK (by omega)]; done) | (simp; done) | omega) | fail))) ⟨k + 1, n, by omega, hL.symm, by omega, by omega, rfl⟩ (by simp only [slotN, ruW, ASt.get, aget, ↓reduceIte, Nat.reduceLT, Nat.reduceEqDiff, eq_self]; omega)
  · obtain rfl : k = m.events.length := by omega
    (repeat' (first | simp (maxSteps := 5000000) (implicitDefEqProofs := false) only [ruA, ruB, aEv, aBin, bin2, ASt.get, aget, ASt.put, aResL, aOne, ↓reduceIte, Nat.reduceLT, Nat.reduceEqDiff, eq_self, hlt] | (with_reducible refine aIf_split (fun _ => ?_) (fun _ => ?_)) | (with_reducible refine aSel_split (fun _ => ?_) (fun _ => ?_)) | (with_reducible refine aGd_split (fun _ => ?_) (fun _ => ?_)) | (with_reducible refine aDraw_quiet (by kernel_rfl) ?_)))
    exact hn
end
section
open Go.RowKit
def nodeM (m : Mod) (c : List Int) (s : St) : Nd := ⟨zoneM s.vals c (leftN m s.cnt m.events.length), s.opn, s.don, s.did, s.cnt⟩
end
section
open Go.RowKit
theorem fixI_le (l : List Cls) : ∀ k, k ≤ l.length → (fixI l k).length ≤ nextN (l.take k)
  | 0, _ => by simp [fixI]
  | k + 1, h => by
    have ih := fixI_le l k (by omega)
    rw [fixI_snoc l (by omega), List.take_succ_eq_append_getElem (by omega), nextN_snoc]
    split
    · rw [List.length_append, List.length_singleton, if_neg (by omega)]
      omega
    · omega
theorem fixI_up (l : List Cls) (k : Nat) : (fixI l k).Pairwise (· < ·) := List.Pairwise.filter _ List.pairwise_lt_range
theorem fixI_mem (l : List Cls) (k : Nat) {i : Nat} (h : i ∈ fixI l k) : i < k := by
  unfold fixI at h
  simp at h
  exact h.1
def fixL (z : Zn) : List Nat := fixI z.cls z.cls.length
def CheckP (z : Zn) (n : Int) (c : List Int) (r : Int) : Prop :=
  ((0 ≤ n ∧ n ≤ 31) ∧ FormedP z.cls n ((sortR c).length : Int) ∧ GappedP z (capV r)) ∧ ∀ i, i + 1 < (fixL z).length → RoomP z ((fixL z).getD i 0) ((fixL z).getD (i + 1) 0) (capV r) ((sortR c).getD i 0) ((sortR c).getD (i + 1) 0)
set_option maxRecDepth 100000 in
set_option maxHeartbeats 16000000 in
theorem zoneCheck_A (z : Zn) (n : Int) (c : List Int) (r : Int) (h1 : z.cls.length ≤ 1000000) (h2 : z.gaps.length ≤ 1000000) (h3 : c.length ≤ 1000000) (hc : ∀ x ∈ c, ok64 x) : ARel Tryz.prog 23 [.agg (eZn z), eI n, sI c, eI r] fun R => ∃ b, R = val (.bool b) ∧ (b = true ↔ CheckP z n c r) := by
  refine arel_of_code mixedT Tryz.func23 rfl (by decide) Tryz.ntmps23 Tryz.results23 rfl ?_
  have hS := numSorted_A c h3
  have hCap := halveCap_A r
  have hcap0 := capV_0 r
  have hcap1 := capV_le r
  have hsl := sortR_len c
  have hso : ∀ x ∈ sortR c, ok64 x := fun x hx => hc x (((sortR_up c).2 x).1 hx)
  unfold CheckP
  generalize sortR c = sc at *
  generalize capV r = cap at *
  obtain ⟨t1, ht1, hF⟩ := adet_iff (formed_A z n (sc.length : Int) h1)
  obtain ⟨t2, ht2, hG⟩ := adet_iff (gapped_A z cap h1 h2)
  rw [← ht1, ← ht2]
  by_cases g1 : 0 ≤ n
  · have d1 : decide (n < 0) = false := by simpa using g1
    by_cases g2 : n ≤ 31
    · have d2 : decide (31 < n) = false := by simpa using g2
      cases t1 with
      | false =>
        (repeat' (first | simp (maxSteps := 5000000) (implicitDefEqProofs := false) only [ruA, ruB, aEv, aTake, aLoad, aLen, aBin, bin2, aUn, un1, ASt.get, aget, ASt.put, aBox, aCells, oneC, oneCL, envOf, aResL, aOne, ↓reduceIte, reduceCtorEq, Nat.reduceLT, Nat.reduceEqDiff, Nat.reduceAdd, eq_self, ne_eq, dref, dref1, AV.shift, tyA_25, tyS_25, tyE_34, d1, d2] | (with_reducible refine aIf_split (fun _ => ?_) (fun _ => ?_)) | (with_reducible refine aSel_split (fun _ => ?_) (fun _ => ?_)) | (with_reducible refine aGd_split (fun _ => ?_) (fun _ => ?_)) | (with_reducible refine aDraw_quiet (by kernel_rfl) ?_) | ((with_reducible apply callT); exact (hS); exact (.inl (by simp [roL, roA]))) | ((with_reducible apply callV); exact (hF)) | ((with_reducible apply callD); exact (hF))))
        all_goals exact retV ⟨false, rfl, by simp⟩
      | true =>
        cases t2 with
        | false =>
          (repeat' (first | simp (maxSteps := 5000000) (implicitDefEqProofs := false) only [ruA, ruB, aEv, aTake, aLoad, aLen, aBin, bin2, aUn, un1, ASt.get, aget, ASt.put, aBox, aCells, oneC, oneCL, envOf, aResL, aOne, ↓reduceIte, reduceCtorEq, Nat.reduceLT, Nat.reduceEqDiff, Nat.reduceAdd, eq_self, ne_eq, dref, dref1, AV.shift, tyA_25, tyS_25, tyE_34, d1, d2] | (with_reducible refine aIf_split (fun _ => ?_) (fun _ => ?_)) | (with_reducible refine aSel_split (fun _ => ?_) (fun _ => ?_)) | (with_reducible refine aGd_split (fun _ => ?_) (fun _ => ?_)) | (with_reducible refine aDraw_quiet (by kernel_rfl) ?_) | ((with_reducible apply callT); exact (hS); exact (.inl (by simp [roL, roA]))) | ((with_reducible apply callV); exact (hF)) | ((with_reducible apply callD); exact (hF)) | ((with_reducible apply callV); exact (hCap)) | ((with_reducible apply callD); exact (hCap)) | ((with_reducible apply callV); exact (hG)) | ((with_reducible apply callD); exact (hG))))
          all_goals exact retV ⟨false, rfl, by simp⟩
        | true =>
          have hfx : (fixL z).length ≤ sc.length := by
            have := fixI_le z.cls z.cls.length (Nat.le_refl _)
            rw [List.take_length] at this
            have h5 := (ht1.1 rfl).2.2
            unfold fixL
            omega
          have hup : (fixL z).Pairwise (· < ·) := fixI_up _ _
          have hlt2 : ∀ i ∈ fixL z, i < z.cls.length := fun i hi => fixI_mem _ _ hi
          have hgp := ht2.1 rfl
          have hX := fixed_A z h1
          have hXe : fixI z.cls z.cls.length = fixL z := rfl
          rw [hXe] at hX
          have hRoom : ∀ i, i + 1 < (fixL z).length → ∃ t : Bool, (t = true ↔ RoomP z ((fixL z).getD i 0) ((fixL z).getD (i + 1) 0) cap (sc.getD i 0) (sc.getD (i + 1) 0)) ∧ ADet Tryz.prog 41 [.agg (eZn z), eI (((fixL z).getD i 0 : Nat) : Int), eI (((fixL z).getD (i + 1) 0 : Nat) : Int), eI cap, eI (sc.getD i 0), eI (sc.getD (i + 1) 0)] (val (.bool t)) := fun i hi => by
            have e1 : (fixL z).getD i 0 = (fixL z)[i] := by rw [List.getD_eq_getElem?_getD, List.getElem?_eq_getElem (by omega)]; rfl
            have e2 : (fixL z).getD (i + 1) 0 = (fixL z)[i + 1] := by rw [List.getD_eq_getElem?_getD, List.getElem?_eq_getElem (by omega)]; rfl
            have e3 : sc.getD i 0 = sc[i] := by rw [List.getD_eq_getElem?_getD, List.getElem?_eq_getElem (by omega)]; rfl
            have e4 : sc.getD (i + 1) 0 = sc[i + 1] := by rw [List.getD_eq_getElem?_getD, List.getElem?_eq_getElem (by omega)]; rfl
            have h5 := List.pairwise_iff_getElem.1 hup i (i + 1) (by omega) hi (by omega)
            have h6 := hlt2 _ (List.getElem_mem hi)
            have h7 := hgp.1
            exact adet_iff (room_A z _ _ cap _ _ (by rw [e1, e2]; exact h5) (by rw [e2]; omega) h2 hgp.2 ⟨hcap0, hcap1⟩ (by rw [e3]; exact hso _ (List.getElem_mem _)) (by rw [e4]; exact hso _ (List.getElem_mem _)))
          have hal : (fixL z).length ≤ 1000000 := by
            have := fixI_len z.cls z.cls.length
            unfold fixL
            omega
          clear ht1 ht2 hup hlt2 hgp hXe
          generalize fixL z = at' at *
          (repeat' (first | simp (maxSteps := 5000000) (implicitDefEqProofs := false) only [ruA, ruB, aEv, aTake, aLoad, aLen, aBin, bin2, aUn, un1, ASt.get, aget, ASt.put, aBox, aCells, oneC, oneCL, envOf, ↓reduceIte, Nat.reduceLT, Nat.reduceEqDiff, Nat.reduceAdd, eq_self, ne_eq, dref, dref1, AV.shift, tyA_25, tyS_25, tyE_34, d1, d2] | (with_reducible refine aIf_split (fun _ => ?_) (fun _ => ?_)) | (with_reducible refine aSel_split (fun _ => ?_) (fun _ => ?_)) | (with_reducible refine aGd_split (fun _ => ?_) (fun _ => ?_)) | (with_reducible refine aDraw_quiet (by kernel_rfl) ?_) | ((with_reducible apply callT); exact (hS); exact (.inl (by simp [roL, roA]))) | ((with_reducible apply callV); exact (hF)) | ((with_reducible apply callD); exact (hF)) | ((with_reducible apply callV); exact (hCap)) | ((with_reducible apply callD); exact (hCap)) | ((with_reducible apply callV); exact (hG)) | ((with_reducible apply callD); exact (hG))))
          all_goals refine callO hX (.inr (fun row hr av ha => by
            obtain ⟨m, _, rfl⟩ := List.mem_map.1 hr
            simp at ha
            rw [ha]
            trivial)) ?_
          all_goals (repeat' (first | simp (maxSteps := 5000000) (implicitDefEqProofs := false) only [ruA, aEv, ASt.get, aget, ASt.put, ↓reduceIte, Nat.reduceLT, Nat.reduceAdd, eq_self] | (with_reducible refine aIf_split (fun _ => ?_) (fun _ => ?_)) | (with_reducible refine aSel_split (fun _ => ?_) (fun _ => ?_)) | (with_reducible refine aGd_split (fun _ => ?_) (fun _ => ?_))))
          refine aLoop_of (fun st => ∃ k : Nat, (k = 0 ∨ k + 1 ≤ at'.length) ∧ (∀ i, i + 1 < at'.length → i < k → RoomP z (at'.getD i 0) (at'.getD (i + 1) 0) cap (sc.getD i 0) (sc.getD (i + 1) 0)) ∧ st = ⟨66, [(3, eI r), (4, .op 0 0 0), (9, sI sc), (10, .osl 1), (11, eI ((k + 1 : Nat) : Int))], [(0, some (.box 25 (eZn z))), (1, some (.row 3 1 (at'.map fun n : Nat => [eI (n : Int)])))], 2⟩) (fun st => at'.length - slotN st 11) ⟨_, (weak_cut1 (by (first | ((simp only [envIn, tabIn, envLt, tabLt, AObj.lt, AV.lt, AV.ltL, ruW, ASt.get, aget, ↓reduceIte, reduceCtorEq, Nat.reduceLT, Nat.reduceEqDiff, Nat.reduceAdd, eq_self]) <;> (repeat' apply And.intro) <;> first | (rw [wrapK (by omega)]; done) | (simp; done) | omega) | fail))), 0, .inl rfl, fun i _ h => by omega, rfl⟩ ?_
          rintro _ ⟨k, hk, hok, rfl⟩
          by_cases hlt : k + 1 < at'.length
          · have hlt0 : k < at'.length := by omega
            have hs0 : k < sc.length := by omega
            have hs1 : k + 1 < sc.length := by omega
            have e1 : at'.getD k 0 = at'[k] := by rw [List.getD_eq_getElem?_getD, List.getElem?_eq_getElem (by omega)]; rfl
            have e2 : at'.getD (k + 1) 0 = at'[k + 1] := by rw [List.getD_eq_getElem?_getD, List.getElem?_eq_getElem (by omega)]; rfl
            have e3 : sc.getD k 0 = sc[k] := by rw [List.getD_eq_getElem?_getD, List.getElem?_eq_getElem (by omega)]; rfl
            have e4 : sc.getD (k + 1) 0 = sc[k + 1] := by rw [List.getD_eq_getElem?_getD, List.getElem?_eq_getElem (by omega)]; rfl
            have e5 : IntKind.i64.wrap (((k + 1 : Nat) : Int) - 1) = (k : Int) := by rw [wrap_in (by omega) (by omega)]; omega
            obtain ⟨t, ht, hR⟩ := hRoom k hlt
            have hok2 : RoomP z (at'.getD k 0) (at'.getD (k + 1) 0) cap (sc.getD k 0) (sc.getD (k + 1) 0) → ∀ i, i + 1 < at'.length → i < k + 1 → RoomP z (at'.getD i 0) (at'.getD (i + 1) 0) cap (sc.getD i 0) (sc.getD (i + 1) 0) := fun h i h1 h2 => by
              rcases Nat.lt_or_ge i k with h3 | h3
              · exact hok i h1 h3
              · obtain rfl : i = k := by omega
                exact h
            have hno : ¬ RoomP z (at'.getD k 0) (at'.getD (k + 1) 0) cap (sc.getD k 0) (sc.getD (k + 1) 0) → ¬ ∀ i, i + 1 < at'.length → RoomP z (at'.getD i 0) (at'.getD (i + 1) 0) cap (sc.getD i 0) (sc.getD (i + 1) 0) := fun h h2 => h (h2 k hlt)
            rw [← ht] at hok2 hno
            rw [e1, e2, e3, e4] at hR
            have f1 : at'[k]? = some at'[k] := List.getElem?_eq_getElem hlt0
            have f2 : at'[k + 1]? = some at'[k + 1] := List.getElem?_eq_getElem hlt
            have f3 : sc[k]? = some sc[k] := List.getElem?_eq_getElem hs0
            have f4 : sc[k + 1]? = some sc[k + 1] := List.getElem?_eq_getElem hs1
            clear hRoom e1 e2 e3 e4 ht hok
            obtain ⟨x1, hx1⟩ : ∃ x, at'[k] = x := ⟨_, rfl⟩
            obtain ⟨x2, hx2⟩ : ∃ x, at'[k + 1] = x := ⟨_, rfl⟩
            obtain ⟨x3, hx3⟩ : ∃ x, sc[k] = x := ⟨_, rfl⟩
            obtain ⟨x4, hx4⟩ : ∃ x, sc[k + 1] = x := ⟨_, rfl⟩
            rw [hx1, hx2, hx3, hx4] at hR
            cases t with
            | true =>
              (repeat' (first | simp (maxSteps := 5000000) (implicitDefEqProofs := false) only [ruA, ruB, aEv, aTake, aLoad, aIndex, aLen, aBin, bin2, aUn, un1, ASt.get, aget, ASt.put, ↓reduceIte, reduceCtorEq, Nat.reduceLT, Nat.reduceEqDiff, Nat.reduceAdd, eq_self, ne_eq, dref, dref1, tyA_25, tyS_25, tyE_34, tyE_23, tyA_3, tyS_3, tyA_2, tyS_2, row_at, hlt, hlt0, hs0, hs1, hx1, hx2, hx3, hx4, e5] | (with_reducible refine aIf_split (fun _ => ?_) (fun _ => ?_)) | (with_reducible refine aSel_split (fun _ => ?_) (fun _ => ?_)) | (with_reducible refine aGd_split (fun _ => ?_) (fun _ => ?_)) | (with_reducible refine aDraw_quiet (by kernel_rfl) ?_) | ((with_reducible apply callV); exact (hCap)) | ((with_reducible apply callD); exact (hCap)) | ((with_reducible apply callV); exact (hR)) | ((with_reducible apply callD); exact (hR))))
              all_goals exact roundI (weak_cut1 (by (first | ((simp only [envIn, tabIn, envLt, tabLt, AObj.lt, AV.lt, AV.ltL, ruW, ASt.get, aget, ↓reduceIte, Nat.reduceLT, Nat.reduceEqDiff, eq_self]) <;> (repeat' apply And.intro) <;> first | (rw [wrapK (by omega)]; done) | (simp; done) | omega) | fail))) ⟨k + 1, .inr (by omega), hok2 rfl, rfl⟩ (by simp only [slotN, ruW, ASt.get, aget, ↓reduceIte, Nat.reduceLT, Nat.reduceEqDiff, eq_self]; omega)
            | false =>
              (repeat' (first | simp (maxSteps := 5000000) (implicitDefEqProofs := false) only [ruA, ruB, aEv, aTake, aLoad, aIndex, aLen, aBin, bin2, aUn, un1, ASt.get, aget, ASt.put, aResL, aOne, ↓reduceIte, reduceCtorEq, Nat.reduceLT, Nat.reduceEqDiff, Nat.reduceAdd, eq_self, ne_eq, dref, dref1, tyA_25, tyS_25, tyE_34, tyE_23, tyA_3, tyS_3, tyA_2, tyS_2, row_at, hlt, hlt0, hs0, hs1, hx1, hx2, hx3, hx4, e5] | (with_reducible refine aIf_split (fun _ => ?_) (fun _ => ?_)) | (with_reducible refine aSel_split (fun _ => ?_) (fun _ => ?_)) | (with_reducible refine aGd_split (fun _ => ?_) (fun _ => ?_)) | (with_reducible refine aDraw_quiet (by kernel_rfl) ?_) | ((with_reducible apply callV); exact (hCap)) | ((with_reducible apply callD); exact (hCap)) | ((with_reducible apply callV); exact (hR)) | ((with_reducible apply callD); exact (hR))))
              all_goals exact retV ⟨false, rfl, by simpa using fun _ _ => hno (by simp)⟩
          · (repeat' (first | simp (maxSteps := 5000000) (implicitDefEqProofs := false) only [ruA, ruB, aEv, aLen, aBin, bin2, ASt.get, aget, ASt.put, aResL, aOne, ↓reduceIte, Nat.reduceLT, Nat.reduceEqDiff, eq_self, ne_eq, tyE_23, hlt] | (with_reducible refine aIf_split (fun _ => ?_) (fun _ => ?_)) | (with_reducible refine aSel_split (fun _ => ?_) (fun _ => ?_)) | (with_reducible refine aGd_split (fun _ => ?_) (fun _ => ?_)) | (with_reducible refine aDraw_quiet (by kernel_rfl) ?_)))
            all_goals exact retV ⟨true, rfl, by simp; exact ⟨⟨g1, g2⟩, fun i h => hok i h (by omega)⟩⟩
    · have d2 : decide (31 < n) = true := by simpa using g2
      (repeat' (first | simp (maxSteps := 5000000) (implicitDefEqProofs := false) only [ruA, ruB, aEv, aBin, bin2, ASt.get, aget, ASt.put, aBox, aCells, oneC, oneCL, envOf, aResL, aOne, ↓reduceIte, Nat.reduceLT, Nat.reduceEqDiff, Nat.reduceAdd, eq_self, AV.shift, d1, d2] | (with_reducible refine aIf_split (fun _ => ?_) (fun _ => ?_)) | (with_reducible refine aSel_split (fun _ => ?_) (fun _ => ?_)) | (with_reducible refine aGd_split (fun _ => ?_) (fun _ => ?_)) | (with_reducible refine aDraw_quiet (by kernel_rfl) ?_) | ((with_reducible apply callT); exact (hS); exact (.inl (by simp [roL, roA])))))
      all_goals exact retV ⟨false, rfl, by simp; omega⟩
  · have d1 : decide (n < 0) = true := by simpa using g1
    (repeat' (first | simp (maxSteps := 5000000) (implicitDefEqProofs := false) only [ruA, ruB, aEv, aBin, bin2, ASt.get, aget, ASt.put, aBox, aCells, oneC, oneCL, envOf, aResL, aOne, ↓reduceIte, Nat.reduceLT, Nat.reduceEqDiff, Nat.reduceAdd, eq_self, AV.shift, d1] | (with_reducible refine aIf_split (fun _ => ?_) (fun _ => ?_)) | (with_reducible refine aSel_split (fun _ => ?_) (fun _ => ?_)) | (with_reducible refine aGd_split (fun _ => ?_) (fun _ => ?_)) | (with_reducible refine aDraw_quiet (by kernel_rfl) ?_) | ((with_reducible apply callT); exact (hS); exact (.inl (by simp [roL, roA])))))
    all_goals exact retV ⟨false, rfl, by simp; omega⟩
end
section
open Go.RowKit
theorem fixI_map (vals c : List Int) (L : List Int) : ∀ k, k ≤ L.length → (fixI (L.map (clsOf vals c)) k).map (fun i => L.getD i 0) = (L.take k).filter fun x => decide (x ∈ sortR c)
  | 0, _ => by simp [fixI]
  | k + 1, h => by
    have ih := fixI_map vals c L k (by omega)
    have hk : k < L.length := by omega
    have hup := (sortR_up c).1
    rw [fixI_snoc _ (by rw [List.length_map]; omega), List.take_succ_eq_append_getElem hk, List.filter_append, ← ih, List.getElem_map]
    have e : L.getD k 0 = L[k] := by rw [List.getD_eq_getElem?_getD, List.getElem?_eq_getElem hk]; rfl
    have hc : (clsOf vals c L[k]).const = constN (sortR c) L[k] (sortR c).length := rfl
    rcases const_in hup L[k] with ⟨h1, h2⟩ | ⟨i, hi, h1, h2⟩
    · rw [if_neg (by rw [hc, h2]; omega)]
      simp [h1]
    · have hm : L[k] ∈ sortR c := h1 ▸ List.getElem_mem hi
      rw [if_pos (by rw [hc, h2]; omega), List.map_append]
      simp [hm, hk]
theorem fix_zone (vals c : List Int) (r : Int) : (fixL (zoneM vals c r)).map (fun i => (numsL vals c).getD i 0) = sortR c := by
  have hL : Up (numsL vals c) := (sortR_up (vals ++ c)).1
  have hm := (sortR_up (vals ++ c)).2
  have hsc := (sortR_up c).1
  have hscm := (sortR_up c).2
  have hin : ∀ x ∈ sortR c, x ∈ numsL vals c := fun x hx => (hm x).2 (List.mem_append_right _ ((hscm x).1 hx))
  have e : fixL (zoneM vals c r) = fixI ((numsL vals c).map (clsOf vals c)) (numsL vals c).length := by
    show fixI (clsL vals c) (clsL vals c).length = _
    unfold clsL
    rw [List.length_map]
  rw [e, fixI_map vals c _ _ (Nat.le_refl _), List.take_length]
  refine up_ext _ _ (List.Pairwise.filter _ hL) hsc fun z => ?_
  simp only [List.mem_filter, decide_eq_true_eq]
  exact ⟨fun h => h.2, fun h => ⟨hin z h, h⟩⟩
theorem gapsN_len (L : List Int) (r : Int) : (gapsN L r L.length).length = L.length - 1 := by simp [gapsN]
theorem gapsN_get (L : List Int) (r : Int) {i : Nat} (h : i + 1 < L.length) : (gapsN L r L.length)[i]? = some (gapV (L.getD i 0) (L.getD (i + 1) 0) (capV r)) := by
  unfold gapsN
  rw [List.getElem?_map, List.getElem?_range (by omega)]
  rfl
theorem gapsPQ_same (z : Zn) (p : Nat) : gapsPQ z p p = [] := by
  unfold gapsPQ
  rw [List.drop_eq_nil_iff, List.length_take]
  omega
theorem gapsPQ_snoc (z : Zn) {p q : Nat} {g : Int} (h : z.gaps[q]? = some g) (hpq : p ≤ q) : gapsPQ z p (q + 1) = gapsPQ z p q ++ [g] := by
  have hq : q < z.gaps.length := (List.getElem?_eq_some_iff.1 h).1
  unfold gapsPQ
  rw [List.take_add_one, h, List.drop_append_of_le_length (by rw [List.length_take]; omega)]
  rfl
theorem room_sum (vals c : List Int) (r : Int) (p : Nat) : ∀ d, p + d < (numsL vals c).length → 0 < d →
    ((d : Int) - 1 + (gapsPQ (zoneM vals c r) p (p + d)).sum ≤ (numsL vals c).getD (p + d) 0 - (numsL vals c).getD p 0 - 1 ∧ 0 ≤ (gapsPQ (zoneM vals c r) p (p + d)).sum) ∧
    ((∃ g ∈ gapsPQ (zoneM vals c r) p (p + d), g = capV r) ∨ (d : Int) - 1 + (gapsPQ (zoneM vals c r) p (p + d)).sum = (numsL vals c).getD (p + d) 0 - (numsL vals c).getD p 0 - 1)
  | 0, _, h => by omega
  | d + 1, hd, _ => by
    have hL : Up (numsL vals c) := (sortR_up (vals ++ c)).1
    have hg := gapsN_get (numsL vals c) r (i := p + d) (by omega)
    have hs := gapsPQ_snoc (zoneM vals c r) (p := p) (q := p + d) hg (by omega)
    have hlt := List.pairwise_iff_getElem.1 hL (p + d) (p + d + 1) (by omega) (by omega) (by omega)
    have e1 : (numsL vals c).getD (p + d) 0 = (numsL vals c)[p + d] := by rw [List.getD_eq_getElem?_getD, List.getElem?_eq_getElem (by omega)]; rfl
    have e2 : (numsL vals c).getD (p + d + 1) 0 = (numsL vals c)[p + d + 1] := by rw [List.getD_eq_getElem?_getD, List.getElem?_eq_getElem (by omega)]; rfl
    rw [← e1, ← e2] at hlt
    have hcap := capV_0 r
    have hgv : gapV ((numsL vals c).getD (p + d) 0) ((numsL vals c).getD (p + d + 1) 0) (capV r) = capV r ∨ gapV ((numsL vals c).getD (p + d) 0) ((numsL vals c).getD (p + d + 1) 0) (capV r) = (numsL vals c).getD (p + d + 1) 0 - (numsL vals c).getD (p + d) 0 - 1 := by
      unfold gapV
      omega
    have hgb : 0 ≤ gapV ((numsL vals c).getD (p + d) 0) ((numsL vals c).getD (p + d + 1) 0) (capV r) ∧ gapV ((numsL vals c).getD (p + d) 0) ((numsL vals c).getD (p + d + 1) 0) (capV r) ≤ (numsL vals c).getD (p + d + 1) 0 - (numsL vals c).getD (p + d) 0 - 1 := by
      unfold gapV
      omega
    generalize gapV ((numsL vals c).getD (p + d) 0) ((numsL vals c).getD (p + d + 1) 0) (capV r) = g at *
    show _ ∧ _
    rw [show p + (d + 1) = p + d + 1 from rfl, hs, List.sum_append, List.sum_singleton]
    have hpush : ((d + 1 : Nat) : Int) = (d : Int) + 1 := by omega
    rw [hpush]
    rcases Nat.eq_zero_or_pos d with rfl | hd0
    · rw [show p + 0 = p from rfl] at *
      rw [gapsPQ_same]
      simp only [List.sum_nil, List.nil_append, List.mem_singleton]
      clear hL hg hs
      refine ⟨by omega, ?_⟩
      rcases hgv with h | h
      · exact .inl ⟨g, rfl, h⟩
      · exact .inr (by omega)
    · obtain ⟨⟨h1, h0⟩, h2⟩ := room_sum vals c r p d (by omega) hd0
      clear hL hg hs
      refine ⟨by omega, ?_⟩
      rcases hgv with h | h
      · exact .inl ⟨g, List.mem_append_right _ (List.mem_singleton.2 rfl), h⟩
      · rcases h2 with ⟨x, hx, h3⟩ | h2
        · exact .inl ⟨x, List.mem_append_left _ hx, h3⟩
        · exact .inr (by omega)
theorem check_zone (vals c : List Int) (r : Int) (hv : vals.length ≤ 31) : CheckP (zoneM vals c r) (vals.length : Int) c r := by
  have hcap := capV_0 r
  have hcl : (zoneM vals c r).cls.length = (numsL vals c).length := by show (clsL vals c).length = _; unfold clsL; rw [List.length_map]
  have hgl : (zoneM vals c r).gaps.length = (numsL vals c).length - 1 := gapsN_len _ r
  refine ⟨⟨⟨by omega, by omega⟩, formed_zone vals c hv, by omega, fun i hi => ?_⟩, fun i hi => ?_⟩
  · rw [hgl] at hi
    have h := gapsN_get (numsL vals c) r (i := i) (by omega)
    have e : (zoneM vals c r).gaps[i] = gapV ((numsL vals c).getD i 0) ((numsL vals c).getD (i + 1) 0) (capV r) := by
      have h2 : (zoneM vals c r).gaps[i]? = some (zoneM vals c r).gaps[i] := List.getElem?_eq_getElem (by omega)
      exact Option.some.inj (h2.symm.trans h)
    rw [e]
    unfold gapV
    omega
  · have hf := fix_zone vals c r
    have hup : (fixL (zoneM vals c r)).Pairwise (· < ·) := fixI_up _ _
    have hlt2 : ∀ j ∈ fixL (zoneM vals c r), j < (zoneM vals c r).cls.length := fun j hj => fixI_mem _ _ hj
    have hval : ∀ j, j < (fixL (zoneM vals c r)).length → (numsL vals c).getD ((fixL (zoneM vals c r)).getD j 0) 0 = (sortR c).getD j 0 := fun j hj => by
      rw [← hf]
      simp [List.getD_eq_getElem?_getD, List.getElem?_map, List.getElem?_eq_getElem hj]
    have a1 := hval i (by omega)
    have a2 := hval (i + 1) hi
    have e1 : (fixL (zoneM vals c r)).getD i 0 = (fixL (zoneM vals c r))[i] := by rw [List.getD_eq_getElem?_getD, List.getElem?_eq_getElem (by omega)]; rfl
    have e2 : (fixL (zoneM vals c r)).getD (i + 1) 0 = (fixL (zoneM vals c r))[i + 1] := by rw [List.getD_eq_getElem?_getD, List.getElem?_eq_getElem (by omega)]; rfl
    have h5 := List.pairwise_iff_getElem.1 hup i (i + 1) (by omega) hi (by omega)
    have h6 := hlt2 _ (List.getElem_mem hi)
    rw [← e1, ← e2] at h5
    rw [← e2, hcl] at h6
    rw [← a1, ← a2]
    clear hf hup hlt2 hval a1 a2 e1 e2
    generalize (fixL (zoneM vals c r)).getD i 0 = p at *
    generalize (fixL (zoneM vals c r)).getD (i + 1) 0 = q at *
    obtain ⟨d, rfl⟩ : ∃ d, q = p + d := ⟨q - p, by omega⟩
    obtain ⟨⟨h1, h0⟩, h2⟩ := room_sum vals c r p d h6 (by omega)
    unfold RoomP
    have ed : ((p + d : Nat) : Int) - (p : Int) - 1 = (d : Int) - 1 := by omega
    rw [ed]
    generalize (gapsPQ (zoneM vals c r) p (p + d)).sum = S at *
    generalize (numsL vals c).getD (p + d) 0 = b at *
    generalize (numsL vals c).getD p 0 = a at *
    have hd : 0 < d := by omega
    by_cases hS : (d : Int) - 1 + S = b - a - 1
    · refine .inl ?_
      unfold gapV
      omega
    · rcases h2 with h2 | h2
      · refine .inr ⟨h2, ?_⟩
        unfold gapV
        omega
      · exact absurd h2 hS
end
section
open Go.RowKit
theorem stateLeft_A (m : Mod) (c : List Int) (he : m.events.length ≤ 10) (hm : ∀ e ∈ m.events, e.times ≤ 10 ∧ e.sets.length ≤ 10) (hc : c.length ≤ 1000000) : ADet Tryz.prog 32 [.agg (eMod m), sI c] (val (.int .i64 (leftN m c m.events.length))) :=
  stateLeftK_A m c he (fun e h => ⟨by have := (hm e h).1; omega, (hm e h).2⟩) hc
set_option maxRecDepth 100000 in
set_option maxHeartbeats 32000000 in
theorem nodeOfC_A (m : Mod) (c : List Int) (s : St) (he : m.events.length ≤ 10) (hm : ∀ e ∈ m.events, e.times ≤ 10 ∧ e.sets.length ≤ 10) (h1 : s.vals.length ≤ 31) (h2 : c.length ≤ 400) (hv : ∀ x ∈ s.vals, ok64 x) (hc : ∀ x ∈ c, ok64 x) (h3 : s.did.length ≤ 1000000) (h4 : s.cnt.length ≤ 1000000) : ADet Tryz.prog 19 [.agg (eMod m), sI c, .agg (eSt s)] ⟨.agg (eNd (nodeM m c s)), [], 0⟩ := by
  have hL := stateLeft_A m s.cnt he hm h4
  have hO := zoneOfC_A s.vals c (leftN m s.cnt m.events.length) h1 h2 hv hc
  unfold nodeM
  obtain ⟨z, hz⟩ : ∃ z, zoneM s.vals c (leftN m s.cnt m.events.length) = z := ⟨_, rfl⟩
  rw [hz] at hO ⊢
  have hok : (⟨.agg (eNd ⟨z, s.opn, s.don, s.did, s.cnt⟩), [], 0⟩ : Res).Ok := ⟨fun id o h => (by cases h), by simp [AV.lt, AV.ltL]⟩
  refine adet_of_code mixedT Tryz.func19 rfl (by decide) Tryz.ntmps19 Tryz.results19 rfl (hok) ?_
  (repeat' (first | simp (maxSteps := 5000000) (implicitDefEqProofs := false) only [ruA, ruB, aEv, ASt.get, aget, ASt.put, aBox, aCells, oneC, oneCL, Value.cells, Value.oneCell', envOf, ↓reduceIte, Nat.reduceLT, Nat.reduceEqDiff, Nat.reduceAdd, eq_self, tyZ_27] | (with_reducible refine aIf_split (fun _ => ?_) (fun _ => ?_)) | (with_reducible refine aSel_split (fun _ => ?_) (fun _ => ?_)) | (with_reducible refine aGd_split (fun _ => ?_) (fun _ => ?_))))
  refine aDraw_held [2] [0, 1, 2, 3, 4, 5, 8, 9, 10, 11, 12, 13, 15, 16] (.exec 6 (.exec 7 (.exec 14 (.exec 17 (.take 18 (.exec 19 .done)))))) (by kernel_rfl) (by simp [ATab.get_cons]) ?_
  (repeat' (first | simp (maxSteps := 5000000) (implicitDefEqProofs := false) only [ruA, ruB, aEv, aTake, aLoad, aField, ASt.get, aget, ASt.put, aBuild, aFill, oneParts, aCells, oneC, oneCL, Value.cells, Value.oneCell', aResL, aOne, ↓reduceIte, reduceCtorEq, Nat.reduceLT, Nat.reduceEqDiff, Nat.reduceAdd, Nat.reduceLeDiff, eq_self, aExecS, aStoreB, aTakes, aTakeE, aFrom, AV.shift, AV.shiftL, aMay, tyA_27, tyS_27, tyF_51_0, tyA_34, tyS_34, tyA_43, tyS_43, tyF_51_4, tyA_23, tyS_23, tyF_51_1, tyA_3, tyS_3, tyF_51_2, tyF_51_3, tyB_27] | (with_reducible refine aIf_split (fun _ => ?_) (fun _ => ?_)) | (with_reducible refine aSel_split (fun _ => ?_) (fun _ => ?_)) | (with_reducible refine aGd_split (fun _ => ?_) (fun _ => ?_)) | (with_reducible refine aDraw_quiet (by kernel_rfl) ?_) | ((with_reducible apply callV); exact (hL)) | ((with_reducible apply callD); exact (hL)) | ((with_reducible apply callT); exact (hO); exact (.inl (by simp [roL, roA]))) | ((with_reducible apply callT (g := 27)); exact (cloneI_A s.did h3); exact (.inl (by simp [roL, roA]))) | ((with_reducible apply callT (g := 27)); exact (cloneI_A s.cnt h4); exact (.inl (by simp [roL, roA]))) | (with_reducible apply And.intro)))
  all_goals exact gives_tree (by first | rfl | simp [AV.ren, AV.renL])
/-- lists and numbers of a state in which a case begins -/
theorem begin_st (m : Mod) : (beginM m).vals = m.inits ∧ (beginM m).did.length = m.events.length ∧ (beginM m).cnt.length = m.events.length := by
  have h := fold_vals m (-1) (m.order.take m.order.length) (startS m)
  unfold beginM passM
  rw [h.1, h.2.1, h.2.2]
  simp [startS]
set_option maxRecDepth 100000 in
set_option maxHeartbeats 32000000 in
theorem nodeBegin_A (m : Mod) (c : List Int) (hf : Fit m) (hco : condOk m) (hp : ∀ p ∈ m.stages, ok64 p.2) (hi : ∀ x ∈ m.inits, ok64 x) (hm : ∀ e ∈ m.events, e.times ≤ 10 ∧ e.sets.length ≤ 10) (h2 : c.length ≤ 400) (hc : ∀ x ∈ c, ok64 x) : ADet Tryz.prog 10 [.agg (eMod m), sI c] ⟨.agg (eNd (nodeM m c (beginM m))), [], 0⟩ := by
  obtain ⟨-, -, -, hel, -, -, -, -, -, hil⟩ := id hf.sizes
  obtain ⟨e1, e2, e3⟩ := begin_st m
  have hB := begin_A m hf hco hp hi
  have hO := nodeOfC_A m c (beginM m) hel hm (by rw [e1]; omega) h2 (by rw [e1]; exact hi) hc (by omega) (by omega)
  have hok : (⟨.agg (eNd (nodeM m c (beginM m))), [], 0⟩ : Res).Ok := ⟨fun id o h => (by cases h), by simp [AV.lt, AV.ltL]⟩
  generalize nodeM m c (beginM m) = nd at *
  refine adet_of_code mixedT Tryz.func10 rfl (by decide) Tryz.ntmps10 Tryz.results10 rfl (hok) ?_
  (repeat' (first | simp (maxSteps := 5000000) (implicitDefEqProofs := false) only [ruA, ruB, aEv, ASt.get, aget, ASt.put, aBox, aCells, oneC, oneCL, Value.cells, Value.oneCell', envOf, ↓reduceIte, Nat.reduceLT, Nat.reduceAdd, eq_self, tyZ_27] | (with_reducible refine aIf_split (fun _ => ?_) (fun _ => ?_)) | (with_reducible refine aSel_split (fun _ => ?_) (fun _ => ?_)) | (with_reducible refine aGd_split (fun _ => ?_) (fun _ => ?_))))
  refine aDraw_held [1] [0, 1, 2] (.exec 3 (.exec 4 (.exec 5 .done))) (by kernel_rfl) (by simp [ATab.get_cons]) ?_
  (repeat' (first | simp (maxSteps := 5000000) (implicitDefEqProofs := false) only [ruA, ruB, aEv, aTake, aLoad, ASt.get, aget, ASt.put, aCells, oneC, oneCL, Value.oneCell', aResL, aOne, ↓reduceIte, reduceCtorEq, Nat.reduceLT, Nat.reduceEqDiff, Nat.reduceAdd, Nat.reduceLeDiff, eq_self, aExecS, aStoreB, aTakes, aFrom, AV.shift, AV.shiftL, aMay, tyA_27, tyS_27, tyA_43, tyS_43] | (with_reducible refine aIf_split (fun _ => ?_) (fun _ => ?_)) | (with_reducible refine aSel_split (fun _ => ?_) (fun _ => ?_)) | (with_reducible refine aGd_split (fun _ => ?_) (fun _ => ?_)) | (with_reducible refine aDraw_quiet (by kernel_rfl) ?_) | ((with_reducible apply callT); exact (hB); exact (.inl (by simp [roL, roA, treeL, treeC]))) | ((with_reducible apply callT); exact (hO); exact (.inl (by simp [roL, roA, treeL, treeC]))) | (with_reducible apply And.intro)))
  all_goals exact gives_tree (by first | rfl | simp [AV.ren, AV.renL])
end
section
open Go.RowKit
set_option maxRecDepth 100000 in
set_option maxHeartbeats 32000000 in
theorem nodeAt_A (m : Mod) (n : Nd) (he : m.events.length ≤ 10) (hm : ∀ e ∈ m.events, e.times ≤ 10 ∧ e.sets.length ≤ 10) (h4 : n.cnt.length ≤ 1000000) : ADet Tryz.prog 21 [.agg (eMod m), .agg (eNd n)] ⟨.agg (eNd n ++ [eI (leftN m n.cnt m.events.length)]), [], 0⟩ := by
  have hL := stateLeft_A m n.cnt he hm h4
  have hok : (⟨.agg (eNd n ++ [eI (leftN m n.cnt m.events.length)]), [], 0⟩ : Res).Ok := ⟨fun id o h => (by cases h), by simp [AV.lt, AV.ltL]⟩
  generalize leftN m n.cnt m.events.length = L at *
  refine adet_of_code mixedT Tryz.func21 rfl (by decide) Tryz.ntmps21 Tryz.results21 rfl (hok) ?_
  (repeat' (first | simp (maxSteps := 5000000) (implicitDefEqProofs := false) only [ruA, ruB, aEv, ASt.get, aget, ASt.put, aBox, aCells, oneC, oneCL, Value.cells, Value.oneCell', envOf, ↓reduceIte, Nat.reduceLT, Nat.reduceEqDiff, Nat.reduceAdd, eq_self, tyZ_59] | (with_reducible refine aIf_split (fun _ => ?_) (fun _ => ?_)) | (with_reducible refine aSel_split (fun _ => ?_) (fun _ => ?_)) | (with_reducible refine aGd_split (fun _ => ?_) (fun _ => ?_))))
  refine aDraw_held [2] [0, 1, 2, 3] (.exec 4 (.take 5 (.exec 6 .done))) (by kernel_rfl) (by simp [ATab.get_cons]) ?_
  (repeat' (first | simp (maxSteps := 5000000) (implicitDefEqProofs := false) only [ruA, ruB, aEv, aTake, aLoad, aField, ASt.get, aget, ASt.put, aBuild, aFill, oneParts, aCells, oneC, oneCL, Value.cells, Value.oneCell', aResL, aOne, ↓reduceIte, reduceCtorEq, Nat.reduceLT, Nat.reduceEqDiff, Nat.reduceAdd, Nat.reduceLeDiff, eq_self, aExecS, aStoreB, aTakes, aTakeE, aFrom, aMay, tyA_59, tyS_59, tyA_27, tyS_27, tyA_43, tyS_43, tyF_27_4, tyA_23, tyS_23, tyB_59] | (with_reducible refine aIf_split (fun _ => ?_) (fun _ => ?_)) | (with_reducible refine aSel_split (fun _ => ?_) (fun _ => ?_)) | (with_reducible refine aGd_split (fun _ => ?_) (fun _ => ?_)) | (with_reducible refine aDraw_quiet (by kernel_rfl) ?_) | ((with_reducible apply callV); exact (hL)) | ((with_reducible apply callD); exact (hL)) | (with_reducible apply And.intro)))
  all_goals exact gives_tree (by first | rfl | simp [AV.ren, AV.renL])
def statZ (m : Mod) (n : Nd) : St := ⟨List.replicate m.attrs.length 0, n.opn, n.don, n.did, n.cnt⟩
def NodeP (m : Mod) (c : List Int) (n : Nd) : Prop := chkS m (statZ m n) = true ∧ CheckP n.z (m.attrs.length : Int) c (leftN m n.cnt m.events.length)
set_option maxRecDepth 100000 in
set_option maxHeartbeats 32000000 in
theorem nodeCheck_A (m : Mod) (c : List Int) (n : Nd) (he : m.events.length ≤ 10) (hm : ∀ e ∈ m.events, e.times ≤ 10 ∧ e.sets.length ≤ 10) (ha : m.attrs.length ≤ 1000000) (h1 : n.z.cls.length ≤ 1000000) (h2 : n.z.gaps.length ≤ 1000000) (h3 : c.length ≤ 1000000) (hc : ∀ x ∈ c, ok64 x) (h5 : n.did.length ≤ 1000000) (h4 : n.cnt.length ≤ 1000000) : ARel Tryz.prog 11 [.agg (eMod m), sI c, .agg (eNd n)] fun R => ∃ b, R = val (.bool b) ∧ (b = true ↔ NodeP m c n) := by
  refine arel_of_code mixedT Tryz.func11 rfl (by decide) Tryz.ntmps11 Tryz.results11 rfl ?_
  have hA := nodeAt_A m n he hm h4
  have hSt := status_A (n.z.cls.map eCls) (n.z.gaps.map fun n => [eI n]) n.opn n.don n.did n.cnt h5 h4
  have hS := checkS_A m (statZ m n) (by omega)
  have hrep : List.replicate m.attrs.length [eI 0] = (List.replicate m.attrs.length 0).map fun n => [eI n] := by simp
  obtain ⟨t, ht, hZ⟩ := adet_iff (zoneCheck_A n.z (m.attrs.length : Int) c (leftN m n.cnt m.events.length) h1 h2 h3 hc)
  unfold NodeP
  rw [← ht]
  clear ht
  generalize leftN m n.cnt m.events.length = L at *
  have hx : ∀ r, r = chkS m (statZ m n) → True := fun _ _ => trivial
  cases hb : chkS m (statZ m n) with
  | true =>
    rw [hb] at hS
    (repeat' (first | simp (maxSteps := 5000000) (implicitDefEqProofs := false) only [ruA, ruB, aEv, aTake, aLoad, aField, aLen, ASt.get, aget, ASt.put, aStore, aBox, aMake, aCells, oneC, oneCL, Value.cells, Value.oneCell', envOf, ↓reduceIte, reduceCtorEq, Nat.reduceLT, Nat.reduceEqDiff, Nat.reduceAdd, Nat.reduceLeDiff, eq_self, ne_eq, AV.shift, AV.shiftL, tyA_43, tyS_43, tyA_27, tyS_27, tyZ_59, tyS_59, tyF_59_0, tyZ_51, tyS_51, tyF_43_0, tyA_33, tyS_33, tyE_33, tyR_34, tyZ_2, tyF_51_0, tyS_34, tyA_51] | (with_reducible refine aIf_split (fun _ => ?_) (fun _ => ?_)) | (with_reducible refine aSel_split (fun _ => ?_) (fun _ => ?_)) | (with_reducible refine aGd_split (fun _ => ?_) (fun _ => ?_)) | (with_reducible refine aDraw_quiet (by kernel_rfl) ?_) | ((with_reducible apply callT); exact (hA); exact (.inl (by simp [roL, roA, treeL, treeC]))) | ((with_reducible apply callT); exact (hSt); exact (.inl (by simp [roL, roA, treeL, treeC]))) | ((with_reducible apply callV); exact (hS)) | ((with_reducible apply callD); exact (hS)) | ((with_reducible apply callV); exact (hZ)) | ((with_reducible apply callD); exact (hZ))))
    refine ⟨⟨by omega, by omega⟩, ?_⟩
    (repeat' (first | simp (maxSteps := 5000000) (implicitDefEqProofs := false) only [ruA, ruB, aEv, aTake, aLoad, aField, aLen, ASt.get, aget, ASt.put, aResL, aOne, ↓reduceIte, reduceCtorEq, Nat.reduceLT, Nat.reduceEqDiff, Nat.reduceAdd, Nat.reduceLeDiff, eq_self, ne_eq, tyF_59_0, tyF_43_0, tyA_33, tyS_33, tyE_33, tyF_27_0, tyA_25, tyS_25, tyF_59_1, tyA_3, tyS_3, hrep] | (with_reducible refine aIf_split (fun _ => ?_) (fun _ => ?_)) | (with_reducible refine aSel_split (fun _ => ?_) (fun _ => ?_)) | (with_reducible refine aGd_split (fun _ => ?_) (fun _ => ?_)) | (with_reducible refine aDraw_quiet (by kernel_rfl) ?_) | ((with_reducible apply callV); exact (hS)) | ((with_reducible apply callD); exact (hS)) | ((with_reducible apply callV); exact (hZ)) | ((with_reducible apply callD); exact (hZ))))
    all_goals exact retV ⟨t, rfl, by simp⟩
  | false =>
    rw [hb] at hS
    (repeat' (first | simp (maxSteps := 5000000) (implicitDefEqProofs := false) only [ruA, ruB, aEv, aTake, aLoad, aField, aLen, ASt.get, aget, ASt.put, aStore, aBox, aMake, aCells, oneC, oneCL, Value.cells, Value.oneCell', envOf, ↓reduceIte, reduceCtorEq, Nat.reduceLT, Nat.reduceEqDiff, Nat.reduceAdd, Nat.reduceLeDiff, eq_self, ne_eq, AV.shift, AV.shiftL, tyA_43, tyS_43, tyA_27, tyS_27, tyZ_59, tyS_59, tyF_59_0, tyZ_51, tyS_51, tyF_43_0, tyA_33, tyS_33, tyE_33, tyR_34, tyZ_2, tyF_51_0, tyS_34, tyA_51] | (with_reducible refine aIf_split (fun _ => ?_) (fun _ => ?_)) | (with_reducible refine aSel_split (fun _ => ?_) (fun _ => ?_)) | (with_reducible refine aGd_split (fun _ => ?_) (fun _ => ?_)) | (with_reducible refine aDraw_quiet (by kernel_rfl) ?_) | ((with_reducible apply callT); exact (hA); exact (.inl (by simp [roL, roA, treeL, treeC]))) | ((with_reducible apply callT); exact (hSt); exact (.inl (by simp [roL, roA, treeL, treeC]))) | ((with_reducible apply callV); exact (hS)) | ((with_reducible apply callD); exact (hS)) | ((with_reducible apply callV); exact (hZ)) | ((with_reducible apply callD); exact (hZ))))
    refine ⟨⟨by omega, by omega⟩, ?_⟩
    (repeat' (first | simp (maxSteps := 5000000) (implicitDefEqProofs := false) only [ruA, ruB, aEv, ASt.get, aget, ASt.put, aResL, aOne, ↓reduceIte, Nat.reduceLT, Nat.reduceEqDiff, eq_self, hrep] | (with_reducible refine aIf_split (fun _ => ?_) (fun _ => ?_)) | (with_reducible refine aSel_split (fun _ => ?_) (fun _ => ?_)) | (with_reducible refine aGd_split (fun _ => ?_) (fun _ => ?_)) | (with_reducible refine aDraw_quiet (by kernel_rfl) ?_) | ((with_reducible apply callV); exact (hS)) | ((with_reducible apply callD); exact (hS)) | ((with_reducible apply callV); exact (hZ)) | ((with_reducible apply callD); exact (hZ))))
    all_goals exact retV ⟨false, rfl, by simp⟩
/-- node.Check of the node of numbers -/
theorem nodeP_zone (m : Mod) (c : List Int) (n : Nd) (vals : List Int) (hv : vals.length ≤ 31) (ha : vals.length = m.attrs.length) (hz : n.z = zoneM vals c (leftN m n.cnt m.events.length)) (hs : chkS m (statZ m n) = true) : NodeP m c n := by
  refine ⟨hs, ?_⟩
  rw [hz, ← ha]
  exact check_zone vals c _ hv
def exM27 : Mod := ⟨[⟨#[97]⟩], [2], [], [], [], [], [], [], [], []⟩
def ex27 : Nd := ⟨⟨[⟨1, -1⟩, ⟨0, 0⟩], [0]⟩, 0, 0, [], []⟩
theorem ex27_begin : beginM exM27 = ⟨[2], 0, 0, [], []⟩ := rfl
theorem ex27_zone : zoneM [2] [3] 0 = ex27.z := by
  have h : (zoneM [2] [3] 0).cls.map (fun c => (c.attrs, c.const)) = ex27.z.cls.map (fun c => (c.attrs, c.const)) := by kernel_rfl
  have h2 : (zoneM [2] [3] 0).gaps = ex27.z.gaps := by kernel_rfl
  refine zn_ext ?_ h2
  have inj : ∀ l k : List Cls, l.map (fun c => (c.attrs, c.const)) = k.map (fun c => (c.attrs, c.const)) → l = k := fun l k h => by
    refine (List.map_inj_right fun x y h => ?_).1 h
    cases x
    cases y
    simpa using h
  exact inj _ _ h
theorem ex27_node : nodeM exM27 [3] (beginM exM27) = ex27 := by
  rw [ex27_begin]
  show (⟨zoneM [2] [3] 0, 0, 0, [], []⟩ : Nd) = ex27
  rw [ex27_zone]
  rfl
theorem ex27_chk : chkS exM27 (statZ exM27 ex27) = true := by kernel_rfl
theorem ex27_P : NodeP exM27 [3] ex27 := nodeP_zone exM27 [3] ex27 [2] (by simp) rfl ex27_zone.symm ex27_chk
theorem ex27_fit : Fit exM27 := ⟨by simp [greatS, exM27], by simp [exM27], by simp [exM27], by simp [exM27]⟩
set_option maxRecDepth 100000 in
set_option maxHeartbeats 8000000 in
theorem awake27_A : ADet Tryz.prog 5 [] (val (.bool true)) := by
  refine adet_of_code mixedT Tryz.func5 rfl (by decide) Tryz.ntmps5 Tryz.results5 rfl (val_ok _) ?_
  have hB := nodeBegin_A exM27 [3] ex27_fit (by simp [condOk, exM27]) (by simp [exM27]) (by simp [exM27, ok64]) (by simp [exM27]) (by simp) (by simp [ok64])
  rw [ex27_node] at hB
  have hC : ADet Tryz.prog 11 [.agg (eMod exM27), sI [3], .agg (eNd ex27)] (val (.bool true)) := (nodeCheck_A exM27 [3] ex27 (by simp [exM27]) (by simp [exM27]) (by simp [exM27]) (by simp [ex27]) (by simp [ex27]) (by simp) (by simp [ok64]) (by simp [ex27]) (by simp [ex27])).mono fun R ⟨b, h1, h2⟩ => by rw [h1, h2.2 ex27_P]
  have hB2 := hB.fits (args := [.agg [.sl 1 [[eS ⟨#[97]⟩]], .sl 1 [[eI 2]], .c (.slice none 0 0), .c (.slice none 0 0), .c (.slice none 0 0), .c (.slice none 0 0), .c (.slice none 0 0), .c (.slice none 0 0), .c (.slice none 0 0), .c (.slice none 0 0)], .sl 1 [[eI 3]]]) ⟨.agg ⟨.refl _, .refl _, .nil 1, .nil 2, .nil 2, .nil 5, .nil 3, .nil 5, .nil 2, .nil 2, trivial⟩, .one (.refl _), trivial⟩
  have hC2 := hC.fits (args := [.agg [.sl 1 [[eS ⟨#[97]⟩]], .sl 1 [[eI 2]], .c (.slice none 0 0), .c (.slice none 0 0), .c (.slice none 0 0), .c (.slice none 0 0), .c (.slice none 0 0), .c (.slice none 0 0), .c (.slice none 0 0), .c (.slice none 0 0)], .sl 1 [[eI 3]], .agg (eNd ex27)]) ⟨.agg ⟨.refl _, .refl _, .nil 1, .nil 2, .nil 2, .nil 5, .nil 3, .nil 5, .nil 2, .nil 2, trivial⟩, .one (.refl _), .one (.refl _), trivial⟩
  (repeat' (first | simp (maxSteps := 5000000) (implicitDefEqProofs := false) only [ruA, ruB, aEv, aTake, aLoad, ASt.get, aget, ASt.put, aStore, aBox, aBuildSlice, aBuild, aFill, oneParts, aCells, oneC, oneCL, treeC, treeL, aLit, Value.cells, Value.oneCell', envOf, ↓reduceIte, reduceCtorEq, Nat.reduceLT, Nat.reduceEqDiff, Nat.reduceAdd, Nat.reduceMul, Nat.reduceLeDiff, eq_self, aBuildSlice1, frzs, ownIds, tyR_33, tyR_34, tyB_43, tyZ_43, tyS_43, tyA_43] | (with_reducible refine aIf_split (fun _ => ?_) (fun _ => ?_)) | (with_reducible refine aSel_split (fun _ => ?_) (fun _ => ?_)) | (with_reducible refine aGd_split (fun _ => ?_) (fun _ => ?_))))
  repeat (refine ⟨rfl, ?_⟩)
  refine callZ [0, 1, 3] (R := ⟨.agg (eNd ex27), [], 0⟩) ?_ ?_ ?_
  · simp (maxSteps := 5000000) (implicitDefEqProofs := false) only [ruB, ↓reduceIte, reduceCtorEq, Nat.reduceEqDiff, eq_self, dref, dref1, frzs, frz1, AV.frz, AV.frzL, frzEnv, frzAVs, frzAV, frzTab, AObj.frz]
    exact hB2
  · simp (maxSteps := 5000000) (implicitDefEqProofs := false) only [ruB, ↓reduceIte, reduceCtorEq, Nat.reduceEqDiff, eq_self, frz1, AV.frz, AV.frzL, frzEnv, frzAVs, frzAV, frzTab, AObj.frz]
    left
    simp [roL, roA, treeL, treeC]
  · have b2 : (((2 : Nat) : Int) == 2) = true := by decide
    have b1 : ((1 : Int) == 1) = true := by decide
    have b0 : (0 : Int) < ((2 : Nat) : Int) := by decide
    have e0 : ([[eI 1, eI (-1)], [eI 0, eI 0]] : List (List AV))[Int.toNat 0]?.getD [] = [eI 1, eI (-1)] := rfl
    have hsh : ∀ k, ATab.shift k ([] : ATab) = [] := fun _ => rfl
    (repeat' (first | simp (maxSteps := 5000000) (implicitDefEqProofs := false) only [ruA, ruB, aEv, aTake, aLoad, aField, aIndex, aLen, aBin, bin2, ASt.get, aget, ASt.put, aStore, aBox, aBuildSlice, aCells, oneC, oneCL, treeC, treeL, aLit, Value.cells, Value.oneCell', ↓reduceIte, reduceCtorEq, Nat.reduceLT, Nat.reduceEqDiff, Nat.reduceAdd, Nat.reduceMul, Nat.reduceLeDiff, eq_self, ne_eq, aBuildSlice1, frzs, frz1, ownIds, AV.frz, AV.frzL, frzEnv, AV.shift, AV.shiftL, frzTab, AObj.frz, tyR_34, tyS_43, tyA_43, tyZ_27, tyS_27, tyF_27_0, tyF_25_0, tyA_22, tyS_22, tyE_22, tyF_46_0, tyA_3, tyS_3, tyA_27, ex27, eCls, b2, b1, b0, e0, hsh] | (with_reducible refine aIf_split (fun _ => ?_) (fun _ => ?_)) | (with_reducible refine aSel_split (fun _ => ?_) (fun _ => ?_)) | (with_reducible refine aGd_split (fun _ => ?_) (fun _ => ?_)) | (with_reducible refine aDraw_quiet (by kernel_rfl) ?_) | (with_reducible apply And.intro)))
    all_goals first
      | rfl
      | skip
    refine callV (v := .bool true) (by simp (maxSteps := 5000000) (implicitDefEqProofs := false) only [ruB, ↓reduceIte, eq_self, dref, dref1]; exact hC2) ?_
    (repeat' (first | simp (maxSteps := 5000000) (implicitDefEqProofs := false) only [ruA, aEv, ASt.get, aget, ASt.put, aResL, aOne, ↓reduceIte, Nat.reduceLT, Nat.reduceEqDiff, eq_self] | (with_reducible refine aIf_split (fun _ => ?_) (fun _ => ?_)) | (with_reducible refine aSel_split (fun _ => ?_) (fun _ => ?_)) | (with_reducible refine aGd_split (fun _ => ?_) (fun _ => ?_)) | (with_reducible refine aDraw_quiet (by kernel_rfl) ?_)))
end
end Go.Proofs.YtodbhccfajgekaaGreatDoor
