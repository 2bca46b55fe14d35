/-
  Parts of the proof: ZZ, ZE, ZK, Z4, Y6.
-/
import Derived.Test.YtbahakgmbceflaaGreatNsm12
set_option linter.unusedVariables false
set_option linter.unusedSimpArgs false
namespace Go.Proofs.YtbahakgmbceflaaGreat
section
open Go.RowKit
def lstN (s : Int) (k : Nat) : List Nat := (List.range k).filter fun i => hasB s (i : Int)
theorem lstN_snoc (s : Int) (k : Nat) : lstN s (k + 1) = if hasB s (k : Int) = true then lstN s k ++ [k] else lstN s k := by
  unfold lstN
  rw [List.range_succ, List.filter_append]
  split
  · rename_i h
    simp [h]
  · rename_i h
    simp [h]
theorem lstN_len (s : Int) (k : Nat) : (lstN s k).length ≤ k := by
  have := List.length_filter_le (fun i : Nat => hasB s (i : Int)) (List.range k)
  unfold lstN
  simpa using this
theorem lstN_mem (s : Int) (k : Nat) {i : Nat} : i ∈ lstN s k ↔ i < k ∧ hasB s (i : Int) = true := by simp [lstN]
set_option maxRecDepth 100000 in
set_option maxHeartbeats 8000000 in
theorem bitsList_A (s : Int) : ADet Tryz.prog 55 [eI s] (own 3 1 ((lstN s 31).map fun n : Nat => [eI (n : Int)])) := by
  refine adet_of_code mixedT Tryz.func55 rfl (by decide) Tryz.ntmps55 Tryz.results55 rfl (own_ok _ _ _) ?_
  (repeat' (first | simp (maxSteps := 5000000) (implicitDefEqProofs := false) only [ruA, aEv, ASt.put, envOf] | (with_reducible refine aIf_split (fun _ => ?_) (fun _ => ?_)) | (with_reducible refine aSel_split (fun _ => ?_) (fun _ => ?_)) | (with_reducible refine aGd_split (fun _ => ?_) (fun _ => ?_))))
  refine aLoop_of (fun st => ∃ k : Nat, k ≤ 31 ∧ st = ⟨17, [(0, eI s), (3, .osl 0), (5, eI (k : Int))], [(0, some (.row 3 1 ((lstN s k).map fun n : Nat => [eI (n : Int)])))], 1⟩) (fun st => 31 - slotN st 5) ⟨_, ((weak_nil 3 3 1 (by simp only [ASt.get, aget, ↓reduceIte, Nat.reduceLT, Nat.reduceEqDiff, eq_self])).trans (weak_ren1 [0] ⟨(by decide), (by (first | ((simp only [envInR, tabInR, envLt, tabLt, AObj.lt, AV.lt, AV.ren, AObj.ren, List.getD_cons_zero, List.length_cons, List.length_nil, ruW, ASt.get, aget, ↓reduceIte, reduceCtorEq, Nat.reduceLT, Nat.reduceEqDiff, Nat.reduceAdd, eq_self, lstN, List.range_zero, List.filter_nil]) <;> (repeat' apply And.intro) <;> first | (rw [wrapK (by omega)]; done) | (simp; done) | omega) | fail))⟩)), 0, Nat.zero_le _, rfl⟩ ?_
  rintro _ ⟨k, hk, rfl⟩
  by_cases hlt : k < 31
  · have d0 : decide ((k : Int) < 31) = true := decide_eq_true (by omega)
    have hs := lstN_snoc s k
    have hl := lstN_len s k
    have hH := has_A s (k : Int)
    cases hb : hasB s (k : Int) with
    | true =>
      rw [hb] at hH
      rw [hb, if_pos rfl] at hs
      have hsn : (lstN s (k + 1)).map (fun n : Nat => [eI (n : Int)]) = (lstN s k).map (fun n : Nat => [eI (n : Int)]) ++ [[eI (k : Int)]] := by rw [hs, List.map_append]; rfl
      (repeat' (first | simp (maxSteps := 5000000) (implicitDefEqProofs := false) only [ruA, ruB, aEv, aBin, bin2, ASt.get, aget, ASt.put, aAppend, aBuildSlice, aCells, oneC, oneCL, treeC, treeL, aLit, aDst, aSrc, appTab, Value.cells, Value.oneCell', ↓reduceIte, reduceCtorEq, Nat.reduceLT, Nat.reduceEqDiff, Nat.reduceAdd, Nat.reduceMul, Nat.reduceLeDiff, eq_self, aBuildSlice1, frzs, ownIds, tyR_34, d0] | (with_reducible refine aIf_split (fun _ => ?_) (fun _ => ?_)) | (with_reducible refine aSel_split (fun _ => ?_) (fun _ => ?_)) | (with_reducible refine aGd_split (fun _ => ?_) (fun _ => ?_)) | (with_reducible refine aDraw_quiet (by kernel_rfl) ?_) | ((with_reducible apply callV); exact (hH)) | ((with_reducible apply callD); exact (hH)) | (with_reducible apply And.intro)))
      all_goals first
        | rfl
        | omega
        | exact roundI (weak_ren1 [2] ⟨(by decide), (by (first | ((simp only [envInR, tabInR, envLt, tabLt, AObj.lt, AV.lt, AV.ren, AObj.ren, List.getD_cons_zero, List.length_cons, List.length_nil, ruW, ASt.get, aget, ↓reduceIte, reduceCtorEq, Nat.reduceLT, Nat.reduceEqDiff, Nat.reduceAdd, eq_self, hsn]) <;> (repeat' apply And.intro) <;> first | (rw [wrapK (by omega)]; done) | (simp; done) | omega) | fail))⟩) ⟨k + 1, by omega, rfl⟩ (by simp only [slotN, ruW, ASt.get, aget, ↓reduceIte, Nat.reduceLT, Nat.reduceEqDiff, eq_self]; omega)
        | trace_state
    | false =>
      rw [hb] at hH
      rw [hb, if_neg (by simp)] at hs
      (repeat' (first | simp (maxSteps := 5000000) (implicitDefEqProofs := false) only [ruA, ruB, aEv, aBin, bin2, ASt.get, aget, ASt.put, ↓reduceIte, reduceCtorEq, Nat.reduceLT, Nat.reduceEqDiff, eq_self, d0] | (with_reducible refine aIf_split (fun _ => ?_) (fun _ => ?_)) | (with_reducible refine aSel_split (fun _ => ?_) (fun _ => ?_)) | (with_reducible refine aGd_split (fun _ => ?_) (fun _ => ?_)) | (with_reducible refine aDraw_quiet (by kernel_rfl) ?_) | ((with_reducible apply callV); exact (hH)) | ((with_reducible apply callD); exact (hH)) | (with_reducible apply And.intro)))
      all_goals first
        | exact roundI (weak_ren1 [0] ⟨(by decide), (by (first | ((simp only [envInR, tabInR, envLt, tabLt, AObj.lt, AV.lt, AV.ren, AObj.ren, List.getD_cons_zero, List.length_cons, List.length_nil, ruW, ASt.get, aget, ↓reduceIte, reduceCtorEq, Nat.reduceLT, Nat.reduceEqDiff, Nat.reduceAdd, eq_self, hs]) <;> (repeat' apply And.intro) <;> first | (rw [wrapK (by omega)]; done) | (simp; done) | omega) | fail))⟩) ⟨k + 1, by omega, rfl⟩ (by simp only [slotN, ruW, ASt.get, aget, ↓reduceIte, Nat.reduceLT, Nat.reduceEqDiff, eq_self]; omega)
        | trace_state
  · obtain rfl : k = 31 := by omega
    have d0 : decide (((31 : Nat) : Int) < 31) = false := rfl
    (repeat' (first | simp (maxSteps := 5000000) (implicitDefEqProofs := false) only [ruA, ruB, aEv, aBin, bin2, ASt.get, aget, ASt.put, aResL, aOne, ↓reduceIte, Nat.reduceLT, Nat.reduceEqDiff, eq_self, d0] | (with_reducible refine aIf_split (fun _ => ?_) (fun _ => ?_)) | (with_reducible refine aSel_split (fun _ => ?_) (fun _ => ?_)) | (with_reducible refine aGd_split (fun _ => ?_) (fun _ => ?_)) | (with_reducible refine aDraw_quiet (by kernel_rfl) ?_)))
    all_goals exact aGives_own (by simp [ATab.get_cons])
def SampleP (z : Zn) (n : Nat) (c : List Int) (r : Int) (R : Res) : Prop :=
  (¬ CheckP z (n : Int) c r ∧ R = ⟨.tup [.c (.slice none 0 0), eB false], [], 0⟩) ∨ (CheckP z (n : Int) c r ∧ ∃ v : List Int, R = ⟨.tup [.osl 0, eB true], [(0, some (.row 2 1 (v.map fun n => [eI n])))], 1⟩ ∧ v.length = n ∧ zoneM v c r = z ∧ ∀ x ∈ v, ok64 x)
theorem sample_ok {v : List Int} : (⟨.tup [.osl 0, eB true], [(0, some (.row 2 1 (v.map fun n => [eI n])))], 1⟩ : Res).Ok := ⟨fun id o hg => (own_ok 2 1 (v.map fun n => [eI n])).young id o hg, ⟨Nat.zero_lt_one, trivial, trivial⟩⟩
def uptoN (z : Zn) (k : Nat) : Nat := if (fixL z).length = 0 then z.cls.length - 1 else if k = 0 then 0 else if k = (fixL z).length then z.cls.length - 1 else (fixL z).getD (k - 1) 0
set_option maxRecDepth 100000 in
set_option maxHeartbeats 16000000 in
theorem sample_A (z : Zn) (n : Nat) (c : List Int) (r : Int) (h1 : z.cls.length ≤ 40) (h2 : z.gaps.length ≤ 40) (h3 : c.length ≤ 1000000) (hn : n ≤ 31) (hc : ∀ x ∈ c, -1099511627776 ≤ x ∧ x ≤ 1099511627776) (hr : capV r ≤ 1048576) (hat : ∀ x ∈ z.cls, x.attrs < 9223372036854775808) :
    ARel Tryz.prog 25 [.agg (eZn z), eI (n : Int), sI c, eI r] (SampleP z n c r) := by
  obtain ⟨t, ht, hCk⟩ := adet_iff (zoneCheck_A z (n : Int) c r (by omega) (by omega) h3 fun x hx => by have := hc x hx; unfold ok64; omega)
  refine arel_of_sc Tryz.func25 rfl (by decide) Tryz.ntmps25 Tryz.results25 rfl ?_
  refine sc_cut (fun st => st = ⟨134, [(1, eI (n : Int)), (2, sI c), (3, eI r), (4, .op 0 0 0)], [(0, zBox (z.cls.map eCls) z.gaps)], 1⟩) (sc_of mixedT ?_) ?_
  · (repeat' (first | simp (maxSteps := 5000000) (implicitDefEqProofs := false) only [ruA, ruB, aEv, ASt.get, aget, ASt.put, aBox, aCells, oneC, oneCL, envOf, ↓reduceIte, Nat.reduceLT, Nat.reduceAdd, eq_self] | (with_reducible refine aIf_split (fun _ => ?_) (fun _ => ?_)) | (with_reducible refine aSel_split (fun _ => ?_) (fun _ => ?_)) | (with_reducible refine aGd_split (fun _ => ?_) (fun _ => ?_)) | (with_reducible refine aDraw_quiet (by kernel_rfl) ?_)))
    exact aTo_mk (weak_cut1 (by (first | ((simp only [envIn, tabIn, envLt, tabLt, AObj.lt, AV.lt, AV.ltL, ruW, ASt.get, aget, ↓reduceIte, Nat.reduceLT, Nat.reduceEqDiff, eq_self]) <;> (repeat' apply And.intro) <;> first | (rw [wrapK (by omega)]; done) | (simp; done) | omega) | fail))) rfl
  rintro _ rfl
  cases t with
  | false =>
    refine sc_of mixedT ?_
    (repeat' (first | simp (maxSteps := 5000000) (implicitDefEqProofs := false) only [ruA, ruB, aEv, aTake, aLoad, aUn, un1, ASt.get, aget, ASt.put, aResL, aOne, ↓reduceIte, Nat.reduceLT, Nat.reduceEqDiff, Nat.reduceAdd, eq_self, tyA_36, tyS_36] | (with_reducible refine aIf_split (fun _ => ?_) (fun _ => ?_)) | (with_reducible refine aSel_split (fun _ => ?_) (fun _ => ?_)) | (with_reducible refine aGd_split (fun _ => ?_) (fun _ => ?_)) | (with_reducible refine aDraw_quiet (by kernel_rfl) ?_) | ((with_reducible apply callV); exact (hCk)) | ((with_reducible apply callD); exact (hCk))))
    have hno : ¬ CheckP z (n : Int) c r := fun h => by
      have := ht.2 h
      cases this
    all_goals exact ⟨⟨.tup [.c (.slice none 0 0), eB false], [], 0⟩, Or.inl ⟨hno, rfl⟩, ⟨fun id o h => (by cases h), ⟨trivial, trivial, trivial⟩⟩, ⟨[], by simp, rfl, trivial⟩⟩
  | true =>
  have hC := ht.1 rfl
  have hCap := halveCap_A r
  have hS := numSorted_A c h3
  have hX := fixed_A z (by omega)
  have hcap0 := capV_0 r
  have hsc := (sortR_up c).1
  have hscb : ∀ x ∈ sortR c, -1099511627776 ≤ x ∧ x ≤ 1099511627776 := fun x hx => hc x (((sortR_up c).2 x).1 hx)
  have hscl := sortR_len c
  obtain ⟨hF, hG, hR⟩ : FormedP z.cls (n : Int) ((sortR c).length : Int) ∧ GappedP z (capV r) ∧ ∀ i, i + 1 < (fixL z).length → RoomP z ((fixL z).getD i 0) ((fixL z).getD (i + 1) 0) (capV r) ((sortR c).getD i 0) ((sortR c).getD (i + 1) 0) := ⟨hC.1.2.1, hC.1.2.2, hC.2⟩
  have hB := zb_of hn hF hat
  have hFl : (fixL z).length = (sortR c).length := by
    have e1 := fix_next hF.1 z.cls.length (Nat.le_refl _)
    rw [List.take_length] at e1
    have e2 := hF.2.2
    unfold fixL
    omega
  have hfm : ∀ j (h : j < (fixL z).length), (fixL z)[j] < z.cls.length := fun j h => fixI_mem _ _ (List.getElem_mem h)
  have hF40 : (fixL z).length ≤ 40 := by
    have := fixI_len z.cls z.cls.length
    unfold fixL
    omega
  have hgl := hG.1
  have hgg : ∀ i, 0 ≤ z.gaps.getD i 0 ∧ z.gaps.getD i 0 ≤ 1048576 := fun i => by
    rcases Nat.lt_or_ge i z.gaps.length with h | h
    · rw [gD_at h]
      have := hG.2 i h
      omega
    · rw [List.getD_eq_getElem?_getD, List.getElem?_eq_none h]
      simp
  have hXe : fixI z.cls z.cls.length = fixL z := rfl
  rw [hXe] at hX
  have hfin := fun A (h : SmpInv z (sortR c) (capV r) A (z.cls.length - 1)) v (hv : v.length = n) h3 => zone_sample (v := v) hn hC hB h.len h.fix (fun i hi => h.gap i (by omega)) hv h3
  generalize hsce : sortR c = sc at *
  generalize hcape : capV r = cap at *
  obtain ⟨X, hXX⟩ : ∃ X, X = z.cls.map eCls := ⟨_, rfl⟩
  rw [← hXX]
  refine sc_cut (fun st => st = ⟨134, [(1, eI (n : Int)), (2, sI c), (3, eI r), (4, .op 0 0 0)], [(0, zBox X z.gaps)], 1⟩) (sc_of mixedT ?_) ?_
  · have hCk2 : ADet Tryz.prog 47 [.agg [.sl 2 X, sI z.gaps], eI (n : Int), sI c, eI r] (val (.bool true)) := by rw [hXX]; exact hCk
    (repeat' (first | simp (maxSteps := 5000000) (implicitDefEqProofs := false) only [ruA, ruB, aEv, aTake, aLoad, aUn, un1, ASt.get, aget, ASt.put, ↓reduceIte, Nat.reduceLT, Nat.reduceEqDiff, Nat.reduceAdd, eq_self, tyA_36, tyS_36] | (with_reducible refine aIf_split (fun _ => ?_) (fun _ => ?_)) | (with_reducible refine aSel_split (fun _ => ?_) (fun _ => ?_)) | (with_reducible refine aGd_split (fun _ => ?_) (fun _ => ?_)) | (with_reducible refine aDraw_quiet (by kernel_rfl) ?_) | ((with_reducible apply callV); exact (hCk2)) | ((with_reducible apply callD); exact (hCk2))))
    all_goals exact aTo_mk (weak_cut1 (by (first | ((simp only [envIn, tabIn, envLt, tabLt, AObj.lt, AV.lt, AV.ltL, ruW, ASt.get, aget, ↓reduceIte, Nat.reduceLT, Nat.reduceEqDiff, eq_self]) <;> (repeat' apply And.intro) <;> first | (rw [wrapK (by omega)]; done) | (simp; done) | omega) | fail))) rfl
  rintro _ rfl
  have hXl : X.length = z.cls.length := by rw [hXX, List.length_map]
  have hrep : List.replicate z.cls.length [eI 0] = (List.replicate z.cls.length (0 : Int)).map fun n => [eI n] := by simp
  refine sc_cut (fun st => st = ⟨134, [(1, eI (n : Int)), (2, sI c), (4, .op 0 0 0), (10, .op 2 0 0)], [(0, zBox X z.gaps), (1, sRow (List.replicate z.cls.length 0)), (2, sBox X z.gaps cap 1)], 3⟩) (sc_of mixedT ?_) ?_
  · (repeat' (first | simp (maxSteps := 5000000) (implicitDefEqProofs := false) only [ruA] | (with_reducible refine aIf_split (fun _ => ?_) (fun _ => ?_)) | (with_reducible refine aSel_split (fun _ => ?_) (fun _ => ?_)) | (with_reducible refine aGd_split (fun _ => ?_) (fun _ => ?_))))
    refine aDraw_held [] [0, 1, 3, 4, 5] (.two 2 (.exec 6 (.take 7 (.exec 8 (.exec 9 .done)))) 6 (.exec 2 (.take 7 (.exec 8 (.exec 9 .done))))) (by kernel_rfl) (by simp [ATab.get_cons]) ?_
    (repeat' (first | simp (maxSteps := 5000000) (implicitDefEqProofs := false) only [ruA, ruB, aEv, aTake, aLoad, aField, aLen, ASt.get, aget, ASt.put, aBox, aMake, aBuild, aFill, oneParts, aCells, oneC, oneCL, Value.cells, Value.oneCell', ↓reduceIte, reduceCtorEq, Nat.reduceLT, Nat.reduceEqDiff, Nat.reduceAdd, Nat.reduceLeDiff, eq_self, ne_eq, aTakes, aTakeE, aFrom, tyA_36, tyS_36, tyF_36_0, tyA_33, tyS_33, tyE_33, tyR_23, tyZ_2, tyB_102, hXl, hrep] | (with_reducible refine aIf_split (fun _ => ?_) (fun _ => ?_)) | (with_reducible refine aSel_split (fun _ => ?_) (fun _ => ?_)) | (with_reducible refine aGd_split (fun _ => ?_) (fun _ => ?_)) | (with_reducible refine aDraw_quiet (by kernel_rfl) ?_) | ((with_reducible apply callV); exact (hCap)) | ((with_reducible apply callD); exact (hCap)) | (with_reducible apply And.intro)))
    all_goals first
      | omega
      | exact aTo_mk (weak_cut1 (by (first | ((simp only [envIn, tabIn, envLt, tabLt, AObj.lt, AV.lt, AV.ltL, ruW, ASt.get, aget, ↓reduceIte, reduceCtorEq, Nat.reduceLT, Nat.reduceEqDiff, eq_self]) <;> (repeat' apply And.intro) <;> first | (rw [wrapK (by omega)]; done) | (simp; done) | omega) | fail))) rfl
      | trace_state
  rintro _ rfl
  have hX2 : ADet Tryz.prog 50 [.agg [.sl 2 X, sI z.gaps]] (own 3 1 ((fixL z).map fun n : Nat => [eI (n : Int)])) := by rw [hXX]; exact hX
  clear hX hCk ht
  obtain ⟨fx, hfx⟩ : ∃ fx, fx = fixL z := ⟨_, rfl⟩
  refine sc_cut (fun st => st = ⟨134, [(1, eI (n : Int)), (2, sI c), (4, .op 0 0 0), (10, .op 2 0 0), (11, .sl 1 (fx.map fun n : Nat => [eI (n : Int)]))], [(0, zBox X z.gaps), (1, sRow (List.replicate z.cls.length 0)), (2, sBox X z.gaps cap 1)], 3⟩) (sc_of mixedT ?_) ?_
  · rw [hfx]
    (repeat' (first | simp (maxSteps := 5000000) (implicitDefEqProofs := false) only [ruA, ruB, aEv, aTake, aLoad, ASt.get, aget, ASt.put, ↓reduceIte, Nat.reduceLT, Nat.reduceEqDiff, Nat.reduceAdd, eq_self, tyA_36, tyS_36] | (with_reducible refine aIf_split (fun _ => ?_) (fun _ => ?_)) | (with_reducible refine aSel_split (fun _ => ?_) (fun _ => ?_)) | (with_reducible refine aGd_split (fun _ => ?_) (fun _ => ?_))))
    refine callO hX2 (.inr (fun row hr av ha => by
      obtain ⟨m, _, rfl⟩ := List.mem_map.1 hr
      simp at ha
      rw [ha]
      trivial)) ?_
    (repeat' (first | simp (maxSteps := 5000000) (implicitDefEqProofs := false) only [ruA, aEv, ASt.get, aget, ASt.put, ↓reduceIte, Nat.reduceLT, Nat.reduceAdd, eq_self] | (with_reducible refine aIf_split (fun _ => ?_) (fun _ => ?_)) | (with_reducible refine aSel_split (fun _ => ?_) (fun _ => ?_)) | (with_reducible refine aGd_split (fun _ => ?_) (fun _ => ?_))))
    refine aTo_mk ((weak_frz _ 3).trans ?_) rfl
    simp [frz1, frzEnv, frzTab, ATab.get_cons, AObj.frz, AV.frz, AV.frzL]
    exact (weak_cut1 (by (first | ((simp only [envIn, tabIn, envLt, tabLt, AObj.lt, AV.lt, AV.ltL, ruW, ASt.get, aget, ↓reduceIte, reduceCtorEq, Nat.reduceLT, Nat.reduceEqDiff, eq_self]) <;> (repeat' apply And.intro) <;> first | (rw [wrapK (by omega)]; done) | (simp; done) | omega) | fail)))
  rintro _ rfl
  have fxl : fx.length ≤ 40 := by rw [hfx]; exact hF40
  have fxsc : fx.length = sc.length := by rw [hfx]; exact hFl
  have hfm2 : ∀ j (h : j < fx.length), fx[j] < z.cls.length := fun j h => by subst hfx; exact hfm j h
  have hup2 : ∀ s t (hs : s < fx.length) (ht : t < fx.length), s < t → fx[s] < fx[t] := fun s t hs ht hst => by subst hfx; exact List.pairwise_iff_getElem.1 (fixI_up z.cls z.cls.length) s t hs ht hst
  refine sc_cut (fun st => ∃ A : List Int, A.length = z.cls.length ∧ (fx.length = 0 → A = List.replicate z.cls.length 0) ∧ (∀ j (h : j < fx.length), A.getD fx[j] 0 = sc.getD j 0) ∧ BdA A ∧ st = ⟨134, [(1, eI (n : Int)), (2, sI c), (4, .op 0 0 0), (10, .op 2 0 0), (11, .sl 1 (fx.map fun n : Nat => [eI (n : Int)]))], [(0, zBox X z.gaps), (1, sRow A), (2, sBox X z.gaps cap 1)], 3⟩) (sc_of mixedT ?_) ?_
  · (repeat' (first | simp (maxSteps := 5000000) (implicitDefEqProofs := false) only [ruA, ruB, aEv, aLen, ASt.get, aget, ASt.put, ↓reduceIte, Nat.reduceLT, Nat.reduceEqDiff, eq_self, ne_eq, tyE_34] | (with_reducible refine aIf_split (fun _ => ?_) (fun _ => ?_)) | (with_reducible refine aSel_split (fun _ => ?_) (fun _ => ?_)) | (with_reducible refine aGd_split (fun _ => ?_) (fun _ => ?_))))
    refine aLoop_of (fun st => ∃ (k : Nat) (A : List Int), k ≤ fx.length ∧ A.length = z.cls.length ∧ (fx.length = 0 → A = List.replicate z.cls.length 0) ∧ (∀ j (h : j < fx.length), j < k → A.getD fx[j] 0 = sc.getD j 0) ∧ BdA A ∧ st = ⟨134, [(1, eI (n : Int)), (2, sI c), (4, .op 0 0 0), (10, .op 2 0 0), (11, .sl 1 (fx.map fun n : Nat => [eI (n : Int)])), (38, .sl 1 (fx.map fun n : Nat => [eI (n : Int)])), (39, eI (fx.length : Int)), (40, eI (k : Int))], [(0, zBox X z.gaps), (1, sRow A), (2, sBox X z.gaps cap 1)], 3⟩) (fun st => fx.length - slotN st 40) ⟨_, (weak_cut1 (by (first | ((simp only [envIn, tabIn, envLt, tabLt, AObj.lt, AV.lt, AV.ltL, ruW, ASt.get, aget, ↓reduceIte, Nat.reduceLT, Nat.reduceEqDiff, eq_self]) <;> (repeat' apply And.intro) <;> first | (rw [wrapK (by omega)]; done) | (simp; done) | omega) | fail))), 0, _, Nat.zero_le _, List.length_replicate .., fun _ => rfl, fun j _ h => by omega, fun i => by rw [List.getD_eq_getElem?_getD, List.getElem?_replicate]; split <;> simp, rfl⟩ ?_
    rintro _ ⟨k, A, hk, hAl, hA0, hAf, hAb, rfl⟩
    by_cases hlt : k < fx.length
    · have d1 : decide (k < fx.length) = true := decide_eq_true hlt
      have hlt2 : k < sc.length := by omega
      have hlt3 := hfm2 k hlt
      have hupk := fun j (hj : j < fx.length) (hjk : j < k) => hup2 j k hj hlt hjk
      have hyb := hscb _ (List.getElem_mem hlt2)
      have hset : (A.map fun n : Int => [eI n]).set fx[k] [eI sc[k]] = (A.set fx[k] sc[k]).map fun n => [eI n] := List.map_set.symm
      have hnew : ∀ j (h : j < fx.length), j < k + 1 → (A.set fx[k] sc[k]).getD fx[j] 0 = sc.getD j 0 := fun j hj hjk => by
        rw [getD_set _ _ _ _ (by omega)]
        rcases Nat.lt_or_ge j k with h | h
        · have := hupk j hj h
          rw [if_neg (by omega)]
          exact hAf j hj h
        · obtain rfl : j = k := by omega
          rw [if_pos rfl, gD_at hlt2]
      generalize hx : fx[k] = x at *
      generalize hy : sc[k] = y at *
      have hlt4 : x < A.length := by omega
      have hbn : BdA (A.set x y) := fun i => by
        rw [getD_set _ _ _ _ hlt4]
        split
        · omega
        · exact hAb i
      have w1 : IntKind.i64.wrap ((k : Int) + 1) = ((k + 1 : Nat) : Int) := wrapK (by omega)
      (repeat' (first | simp (maxSteps := 5000000) (implicitDefEqProofs := false) only [ruA, ruB, aEv, aTake, aLoad, aIndex, aBin, bin2, ASt.get, aget, ASt.put, ↓reduceIte, reduceCtorEq, Nat.reduceLT, Nat.reduceEqDiff, eq_self, tyE_34, tyA_3, tyS_3, row_at, hlt, hx] | (with_reducible refine aIf_split (fun _ => ?_) (fun _ => ?_)) | (with_reducible refine aSel_split (fun _ => ?_) (fun _ => ?_)) | (with_reducible refine aGd_split (fun _ => ?_) (fun _ => ?_))))
      refine aDraw_held [1] [0, 1, 2, 3, 4, 5, 7] (.exec 6 (.take 8 (.exec 9 (.take 10 (.exec 11 .done))))) (by kernel_rfl) (by simp [ATab.get_cons]) ?_
      (repeat' (first | simp (maxSteps := 5000000) (implicitDefEqProofs := false) only [ruA, ruB, aEv, aTake, aLoad, aField, aIndex, aBin, bin2, ASt.get, aget, ASt.put, aCells, oneC, oneCL, treeC, treeL, Value.cells, Value.oneCell', ↓reduceIte, reduceCtorEq, Nat.reduceLT, Nat.reduceEqDiff, Nat.reduceAdd, Nat.reduceLeDiff, eq_self, aExecS, aStoreB, aTakes, aTakeE, aFrom, AV.shift, aMay, aNil, tyF_102_2, tyA_23, tyS_23, tyE_23, tyA_2, tyS_2, row_at, hlt2, hlt3, hy, hAl, w1, hset, Int.natCast_nonneg, Int.ofNat_lt] | (with_reducible refine aIf_split (fun _ => ?_) (fun _ => ?_)) | (with_reducible refine aSel_split (fun _ => ?_) (fun _ => ?_)) | (with_reducible refine aGd_split (fun _ => ?_) (fun _ => ?_)) | (with_reducible refine aDraw_quiet (by kernel_rfl) ?_) | ((with_reducible apply callT); exact (hS); exact (.inl (by simp [roL, roA])))))

      all_goals exact roundI (weak_cut1 (by (first | ((simp only [envIn, tabIn, envLt, tabLt, AObj.lt, AV.lt, AV.ltL, ruW, ASt.get, aget, ↓reduceIte, reduceCtorEq, Nat.reduceLT, Nat.reduceEqDiff, eq_self]) <;> (repeat' apply And.intro) <;> first | (rw [wrapK (by omega)]; done) | (simp; done) | omega) | fail))) ⟨k + 1, A.set x y, by omega, by rw [List.length_set, hAl], fun h => by omega, hnew, hbn, rfl⟩ (by simp only [slotN, ruW, ASt.get, aget, ↓reduceIte, Nat.reduceLT, Nat.reduceEqDiff, eq_self]; omega)
    · obtain rfl : k = fx.length := by omega
      (repeat' (first | simp (maxSteps := 5000000) (implicitDefEqProofs := false) only [ruA, ruB, aEv, aBin, bin2, ASt.get, aget, ASt.put, ↓reduceIte, Nat.reduceLT, Nat.reduceEqDiff, eq_self, hlt] | (with_reducible refine aIf_split (fun _ => ?_) (fun _ => ?_)) | (with_reducible refine aSel_split (fun _ => ?_) (fun _ => ?_)) | (with_reducible refine aGd_split (fun _ => ?_) (fun _ => ?_))))
      refine aTo_mk ?_ ⟨A, hAl, hA0, fun j h => hAf j h h, hAb, rfl⟩
      exact (weak_cut1 (by (first | ((simp only [envIn, tabIn, envLt, tabLt, AObj.lt, AV.lt, AV.ltL, ruW, ASt.get, aget, ↓reduceIte, Nat.reduceLT, Nat.reduceEqDiff, eq_self]) <;> (repeat' apply And.intro) <;> first | (rw [wrapK (by omega)]; done) | (simp; done) | omega) | fail)))
  rintro _ ⟨A, hAl, hA0, hAf, hAb, rfl⟩
  have hfxD : ∀ t (h : t < fx.length), (fixL z).getD t 0 = fx[t] := fun t h => by
    subst hfx
    rw [List.getD_eq_getElem?_getD, List.getElem?_eq_getElem h]
    rfl
  have hfxl : (fixL z).length = fx.length := by rw [hfx]
  have hInv0 : SmpInv z sc cap A 0 := ⟨hAl, fun t h => by rw [hfxD t (by omega)]; exact hAf t (by omega), fun i h => by omega, hAb⟩
  have hSB : SmpB z sc := ⟨h1, hgg, fun t => by
    rcases Nat.lt_or_ge t sc.length with h | h
    · rw [gD_at h]
      exact hscb _ (List.getElem_mem h)
    · rw [List.getD_eq_getElem?_getD, List.getElem?_eq_none h]
      simp⟩
  clear hAf hAb
  have hsm : ∀ A : List Int, A.length = z.cls.length → SmpOk z.gaps A := fun A h => ⟨by omega, by omega, hgg⟩
  have hscD : ∀ t, t < fx.length → -4398046511104 ≤ sc.getD t 0 ∧ sc.getD t 0 ≤ 4398046511104 := fun t h => by
    rw [gD_at (by omega)]
    have := hscb _ (List.getElem_mem (by omega : t < sc.length))
    omega
  refine sc_cut (fun st => ∃ A : List Int, SmpInv z sc cap A (uptoN z 0) ∧ st = ⟨134, [(1, eI (n : Int)), (2, sI c), (4, .op 0 0 0), (10, .op 2 0 0), (11, .sl 1 (fx.map fun n : Nat => [eI (n : Int)]))], [(0, zBox X z.gaps), (1, sRow A), (2, sBox X z.gaps cap 1)], 3⟩) (sc_of mixedT ?_) ?_
  · by_cases h0 : fx.length = 0
    · have b0 : ((fx.length : Int) == 0) = true := by rw [h0]; rfl
      have hA00 := hA0 h0
      (repeat' (first | simp (maxSteps := 5000000) (implicitDefEqProofs := false) only [ruA, ruB, aEv, aTake, aLoad, aField, aLen, aBin, bin2, ASt.get, aget, ASt.put, ↓reduceIte, reduceCtorEq, Nat.reduceLT, Nat.reduceEqDiff, Nat.reduceAdd, Nat.reduceLeDiff, eq_self, ne_eq, tyF_36_0, tyA_33, tyS_33, tyE_33, tyE_34, b0, hXl] | (with_reducible refine aIf_split (fun _ => ?_) (fun _ => ?_)) | (with_reducible refine aSel_split (fun _ => ?_) (fun _ => ?_)) | (with_reducible refine aGd_split (fun _ => ?_) (fun _ => ?_))))
      refine callI ?_
      refine up_I (b := 2) (a := 1) (x2 := 0) (x3 := 1000) (ts := [1, 2, 4, 10, 11]) (env := [(1, eI (n : Int)), (2, sI c), (4, .op 2 0 0), (10, .op 0 0 0), (11, .sl 1 (fx.map fun n : Nat => [eI (n : Int)]))]) (o2 := zBox X z.gaps) (o3 := none) (X := X) (g := z.gaps) (cap := cap) (A := A) 0 z.cls.length ⟨rfl, rfl, fun o e => by cases e; exact ⟨rfl, trivial, trivial, trivial⟩, fun o e => (by cases e), (by simp), rfl, ⟨trivial, trivial, (by show (2 : Nat) < 5; omega), (by show (0 : Nat) < 5; omega), trivial, trivial⟩⟩ (hsm A hAl) (by omega) (by omega) (by rw [hA00]; simp [List.getD_eq_getElem?_getD, List.getElem?_replicate]; split <;> simp) fun vs2 A' hU => ?_
      (repeat' (first | simp (maxSteps := 5000000) (implicitDefEqProofs := false) only [ruA, ruB, ASt.put, Nat.reduceAdd, AV.shift, AV.shiftL, smpSt, shiftT_nil, shiftT_some, shiftT_none, AObj.shift, shiftEnv] | (with_reducible refine aIf_split (fun _ => ?_) (fun _ => ?_)) | (with_reducible refine aSel_split (fun _ => ?_) (fun _ => ?_)) | (with_reducible refine aGd_split (fun _ => ?_) (fun _ => ?_)) | (with_reducible refine aDraw_quiet (by kernel_rfl) ?_)))
      refine aTo_mk (weak_ren1 [5, 4, 3] ⟨(by decide), (by (first | ((simp only [envInR, tabInR, envLt, tabLt, AObj.lt, AV.lt, AV.ltL, AV.ren, AV.renL, AObj.ren, List.getD_cons_zero, List.getD_cons_succ, List.length_cons, List.length_nil, ruW, ASt.get, aget, ↓reduceIte, Nat.reduceLT, Nat.reduceEqDiff, Nat.reduceAdd, eq_self]) <;> (repeat' apply And.intro) <;> first | (rw [wrapK (by omega)]; done) | (simp; done) | omega) | fail))⟩) ⟨A', ?_, rfl⟩
      have h9 := hInv0.none hU (by omega) (by rw [hA0 (by omega), List.getD_eq_getElem?_getD, List.getElem?_replicate]; split <;> rfl) hSB
      unfold uptoN
      rw [if_pos (by omega)]
      exact h9
    · have b0 : ((fx.length : Int) == 0) = false := by rw [beq_eq_false_iff_ne]; omega
      (repeat' (first | simp (maxSteps := 5000000) (implicitDefEqProofs := false) only [ruA, ruB, aEv, aLen, aBin, bin2, ASt.get, aget, ASt.put, ↓reduceIte, Nat.reduceLT, Nat.reduceEqDiff, eq_self, ne_eq, tyE_34, b0] | (with_reducible refine aIf_split (fun _ => ?_) (fun _ => ?_)) | (with_reducible refine aSel_split (fun _ => ?_) (fun _ => ?_)) | (with_reducible refine aGd_split (fun _ => ?_) (fun _ => ?_))))
      refine aTo_mk (weak_cut1 (by (first | ((simp only [envIn, tabIn, envLt, tabLt, AObj.lt, AV.lt, AV.ltL, ruW, ASt.get, aget, ↓reduceIte, Nat.reduceLT, Nat.reduceEqDiff, eq_self]) <;> (repeat' apply And.intro) <;> first | (rw [wrapK (by omega)]; done) | (simp; done) | omega) | fail))) ⟨A, ?_, rfl⟩
      unfold uptoN
      rw [if_neg (by omega), if_pos rfl]
      exact hInv0
  clear hInv0 hA0 hAl
  rintro _ ⟨A, hInv, rfl⟩
  refine sc_cut (fun st => ∃ A : List Int, SmpInv z sc cap A (z.cls.length - 1) ∧ st = ⟨134, [(1, eI (n : Int)), (2, sI c), (4, .op 0 0 0), (10, .op 2 0 0), (11, .sl 1 (fx.map fun n : Nat => [eI (n : Int)]))], [(0, zBox X z.gaps), (1, sRow A), (2, sBox X z.gaps cap 1)], 3⟩) (sc_of mixedT ?_) ?_
  · (repeat' (first | simp (maxSteps := 5000000) (implicitDefEqProofs := false) only [ruA, ruB, aEv, aLen, ASt.get, aget, ASt.put, ↓reduceIte, Nat.reduceLT, Nat.reduceEqDiff, eq_self, ne_eq, tyE_34] | (with_reducible refine aIf_split (fun _ => ?_) (fun _ => ?_)) | (with_reducible refine aSel_split (fun _ => ?_) (fun _ => ?_)) | (with_reducible refine aGd_split (fun _ => ?_) (fun _ => ?_))))
    refine aLoop_of (fun st => ∃ (k : Nat) (A : List Int), k ≤ fx.length ∧ SmpInv z sc cap A (uptoN z k) ∧ st = ⟨134, [(1, eI (n : Int)), (2, sI c), (4, .op 0 0 0), (10, .op 2 0 0), (11, .sl 1 (fx.map fun n : Nat => [eI (n : Int)])), (65, .sl 1 (fx.map fun n : Nat => [eI (n : Int)])), (66, eI (fx.length : Int)), (67, eI (k : Int))], [(0, zBox X z.gaps), (1, sRow A), (2, sBox X z.gaps cap 1)], 3⟩) (fun st => fx.length - slotN st 67) ⟨_, (weak_cut1 (by (first | ((simp only [envIn, tabIn, envLt, tabLt, AObj.lt, AV.lt, AV.ltL, ruW, ASt.get, aget, ↓reduceIte, Nat.reduceLT, Nat.reduceEqDiff, eq_self]) <;> (repeat' apply And.intro) <;> first | (rw [wrapK (by omega)]; done) | (simp; done) | omega) | fail))), 0, A, Nat.zero_le _, hInv, rfl⟩ ?_
    clear hInv
    rintro _ ⟨k, A, hk, hInv, rfl⟩
    by_cases hlt : k < fx.length
    · have d1 : decide (k < fx.length) = true := decide_eq_true hlt
      have hAl := hInv.len
      have hfk := hfxD k hlt
      have hpm := hfm2 k hlt
      have hAk := hInv.fix k (by omega)
      rw [hfk] at hAk
      have hbk := hscD k hlt
      rw [← hAk] at hbk
      have wF : IntKind.i64.wrap ((fx.length : Int) - 1) = (fx.length : Int) - 1 := wrap_in (by omega) (by omega)
      have w1 : IntKind.i64.wrap ((k : Int) + 1) = ((k + 1 : Nat) : Int) := wrapK (by omega)
      obtain ⟨p, hp⟩ : ∃ p, fx[k] = p := ⟨_, rfl⟩
      rw [hp] at hfk hpm hbk
      have hupto : uptoN z (k + 1) = if k + 1 = fx.length then z.cls.length - 1 else p := by
        unfold uptoN
        rw [if_neg (by omega), if_neg (by omega), hfxl, Nat.add_sub_cancel, hfk]
      have hup3 : ∀ A', SmpInv z sc cap A' p → k + 1 = fx.length → ∀ A2, UpP z.gaps p (max z.cls.length (p + 1)) A' A2 → SmpInv z sc cap A2 (z.cls.length - 1) := fun A' h h2 A2 hU => by
        rw [← hfk] at h hU
        exact h.up (by omega) hU hSB
      have hAp' : ∀ A', SmpInv z sc cap A' p → -4398046511104 ≤ A'.getD p 0 ∧ A'.getD p 0 ≤ 4398046511104 := fun A' h => by
        have := h.fix k (by omega)
        rw [hfk] at this
        rw [this]
        exact hscD k hlt
      rcases Nat.eq_zero_or_pos k with hk0 | hk0
      · subst hk0
        have b0 : (((0 : Nat) : Int) == 0) = true := rfl
        have hu0 : uptoN z 0 = 0 := by unfold uptoN; rw [if_neg (by omega), if_pos rfl]
        rw [hu0] at hInv
        (repeat' (first | simp (maxSteps := 5000000) (implicitDefEqProofs := false) only [ruA, ruB, aEv, aTake, aLoad, aIndex, aBin, bin2, ASt.get, aget, ASt.put, ↓reduceIte, reduceCtorEq, Nat.reduceLT, Nat.reduceEqDiff, eq_self, tyE_34, tyA_3, tyS_3, b0, row_at, hlt, hp] | (with_reducible refine aIf_split (fun _ => ?_) (fun _ => ?_)) | (with_reducible refine aSel_split (fun _ => ?_) (fun _ => ?_)) | (with_reducible refine aGd_split (fun _ => ?_) (fun _ => ?_))))
        refine callI ?_
        refine down_I (b := 2) (a := 1) (x2 := 0) (x3 := 1000) (ts := [1, 2, 4, 10, 11, 14, 15, 65, 66, 67]) (env := [(1, eI (n : Int)), (2, sI c), (4, .op 2 0 0), (10, .op 0 0 0), (11, .sl 1 (fx.map fun n : Nat => [eI (n : Int)])), (14, eI ((0 : Nat) : Int)), (15, eI (p : Int)), (65, .sl 1 (fx.map fun n : Nat => [eI (n : Int)])), (66, eI (fx.length : Int)), (67, eI ((0 : Nat) : Int))]) (o2 := zBox X z.gaps) (o3 := none) (X := X) (g := z.gaps) (cap := cap) (A := A) p ⟨rfl, rfl, fun o e => by cases e; exact ⟨rfl, trivial, trivial, trivial⟩, fun o e => (by cases e), (by simp), rfl, ⟨trivial, trivial, (by show (2 : Nat) < 5; omega), (by show (0 : Nat) < 5; omega), trivial, trivial, trivial, trivial, trivial, trivial, trivial⟩⟩ (hsm A hAl) (by omega) hbk fun vs2 A' hD => ?_
        have hI2 : SmpInv z sc cap A' p := by
          have := hInv.down (by omega) (by rw [hfk]; exact hD) hSB
          rw [hfk] at this
          exact this
        by_cases hlast : 0 + 1 = fx.length
        · have b1 : (((0 : Nat) : Int) == (fx.length : Int) - 1) = true := by rw [beq_iff_eq]; omega
          rw [if_pos hlast] at hupto
          (repeat' (first | simp (maxSteps := 5000000) (implicitDefEqProofs := false) only [ruA, ruB, aEv, aTake, aLoad, aField, aLen, aBin, bin2, ASt.get, aget, ASt.put, ↓reduceIte, reduceCtorEq, Nat.reduceLT, Nat.reduceEqDiff, Nat.reduceAdd, Nat.reduceLeDiff, eq_self, ne_eq, AV.shift, AV.shiftL, tyF_36_0, tyA_33, tyS_33, tyE_33, tyE_34, smpSt, shiftT_nil, shiftT_some, shiftT_none, AObj.shift, shiftEnv, b1, wF, hXl] | (with_reducible refine aIf_split (fun _ => ?_) (fun _ => ?_)) | (with_reducible refine aSel_split (fun _ => ?_) (fun _ => ?_)) | (with_reducible refine aGd_split (fun _ => ?_) (fun _ => ?_)) | (with_reducible refine aDraw_quiet (by kernel_rfl) ?_) | (with_reducible refine callI ?_)))
          refine up_I (b := 3) (a := 4) (x2 := 5) (x3 := 1000) (ts := [1, 2, 4, 10, 11, 14, 15, 65, 66, 67]) (env := [(1, eI (n : Int)), (2, sI c), (4, .op 2 0 0), (10, .op 0 0 0), (11, .sl 1 (fx.map fun n : Nat => [eI (n : Int)])), (14, eI ((0 : Nat) : Int)), (15, eI (p : Int)), (65, .sl 1 (fx.map fun n : Nat => [eI (n : Int)])), (66, eI (fx.length : Int)), (67, eI ((0 : Nat) : Int))]) (o2 := zBox X z.gaps) (o3 := none) (X := X) (g := z.gaps) (cap := cap) (A := A') p z.cls.length ⟨rfl, rfl, fun o e => by cases e; exact ⟨rfl, trivial, trivial, trivial⟩, fun o e => (by cases e), (by simp), rfl, ⟨trivial, trivial, (by show (2 : Nat) < 5; omega), (by show (0 : Nat) < 5; omega), trivial, trivial, trivial, trivial, trivial, trivial, trivial⟩⟩ (hsm A' hI2.len) (by omega) (by have := hI2.len; omega) (hAp' A' hI2) fun vs3 A2 hU => ?_
          (repeat' (first | simp (maxSteps := 5000000) (implicitDefEqProofs := false) only [ruA, ruB, aEv, aBin, bin2, ASt.get, aget, ASt.put, ↓reduceIte, Nat.reduceLT, Nat.reduceEqDiff, Nat.reduceAdd, eq_self, AV.shift, AV.shiftL, smpSt, shiftT_nil, shiftT_some, shiftT_none, AObj.shift, shiftEnv, w1] | (with_reducible refine aIf_split (fun _ => ?_) (fun _ => ?_)) | (with_reducible refine aSel_split (fun _ => ?_) (fun _ => ?_)) | (with_reducible refine aGd_split (fun _ => ?_) (fun _ => ?_)) | (with_reducible refine aDraw_quiet (by kernel_rfl) ?_)))
          exact roundI (weak_ren1 [10, 9, 8] ⟨(by decide), (by (first | ((simp only [envInR, tabInR, envLt, tabLt, AObj.lt, AV.lt, AV.ltL, AV.ren, AV.renL, AObj.ren, List.getD_cons_zero, List.getD_cons_succ, List.length_cons, List.length_nil, ruW, ASt.get, aget, ↓reduceIte, Nat.reduceLT, Nat.reduceEqDiff, Nat.reduceAdd, eq_self]) <;> (repeat' apply And.intro) <;> first | (rw [wrapK (by omega)]; done) | (simp; done) | omega) | fail))⟩) ⟨0 + 1, A2, by omega, by rw [hupto]; exact hup3 A' hI2 hlast A2 hU, rfl⟩ (by simp only [slotN, ruW, ASt.get, aget, ↓reduceIte, Nat.reduceLT, Nat.reduceEqDiff, Nat.reduceAdd, eq_self]; omega)
        · have b1 : (((0 : Nat) : Int) == (fx.length : Int) - 1) = false := by rw [beq_eq_false_iff_ne]; omega
          rw [if_neg hlast] at hupto
          (repeat' (first | simp (maxSteps := 5000000) (implicitDefEqProofs := false) only [ruA, ruB, aEv, aLen, aBin, bin2, ASt.get, aget, ASt.put, ↓reduceIte, Nat.reduceLT, Nat.reduceEqDiff, Nat.reduceAdd, eq_self, ne_eq, AV.shift, AV.shiftL, tyE_34, smpSt, shiftT_nil, shiftT_some, shiftT_none, AObj.shift, shiftEnv, b1, wF, w1] | (with_reducible refine aIf_split (fun _ => ?_) (fun _ => ?_)) | (with_reducible refine aSel_split (fun _ => ?_) (fun _ => ?_)) | (with_reducible refine aGd_split (fun _ => ?_) (fun _ => ?_)) | (with_reducible refine aDraw_quiet (by kernel_rfl) ?_)))
          exact roundI (weak_ren1 [5, 4, 3] ⟨(by decide), (by (first | ((simp only [envInR, tabInR, envLt, tabLt, AObj.lt, AV.lt, AV.ltL, AV.ren, AV.renL, AObj.ren, List.getD_cons_zero, List.getD_cons_succ, List.length_cons, List.length_nil, ruW, ASt.get, aget, ↓reduceIte, Nat.reduceLT, Nat.reduceEqDiff, Nat.reduceAdd, eq_self]) <;> (repeat' apply And.intro) <;> first | (rw [wrapK (by omega)]; done) | (simp; done) | omega) | fail))⟩) ⟨0 + 1, A', by omega, by rw [hupto]; exact hI2, rfl⟩ (by simp only [slotN, ruW, ASt.get, aget, ↓reduceIte, Nat.reduceLT, Nat.reduceEqDiff, Nat.reduceAdd, eq_self]; omega)
      · obtain ⟨j, rfl⟩ : ∃ j, k = j + 1 := ⟨k - 1, by omega⟩
        have hltj : j < fx.length := by omega
        have b0 : (((j + 1 : Nat) : Int) == 0) = false := by rw [beq_eq_false_iff_ne]; omega
        have w2 : IntKind.i64.wrap (((j + 1 : Nat) : Int) - 1) = (j : Int) := by rw [wrap_in (by omega) (by omega)]; omega
        have hfj := hfxD j hltj
        have hpj := hup2 j (j + 1) hltj hlt (by omega)
        obtain ⟨o, ho⟩ : ∃ o, fx[j] = o := ⟨_, rfl⟩
        rw [ho] at hfj hpj
        rw [hp] at hpj
        have huj : uptoN z (j + 1) = o := by
          unfold uptoN
          rw [if_neg (by omega), if_neg (by omega), if_neg (by omega), Nat.add_sub_cancel, hfj]
        rw [huj] at hInv
        have hAj := hInv.fix j (by omega)
        rw [hfj] at hAj
        have hbj := hscD j hltj
        rw [← hAj] at hbj
        have hscl2 : sc.getD j 0 < sc.getD (j + 1) 0 := by
          rw [gD_at (by omega : j < sc.length), gD_at (by omega : j + 1 < sc.length)]
          exact List.pairwise_iff_getElem.1 hsc j (j + 1) (by omega) (by omega) (by omega)
        have hRj := hR j (by omega)
        (repeat' (first | simp (maxSteps := 5000000) (implicitDefEqProofs := false) only [ruA, ruB, aEv, aTake, aLoad, aIndex, aBin, bin2, ASt.get, aget, ASt.put, ↓reduceIte, reduceCtorEq, Nat.reduceLT, Nat.reduceEqDiff, eq_self, tyE_34, tyA_3, tyS_3, b0, row_at, hlt, hp] | (with_reducible refine aIf_split (fun _ => ?_) (fun _ => ?_)) | (with_reducible refine aSel_split (fun _ => ?_) (fun _ => ?_)) | (with_reducible refine aGd_split (fun _ => ?_) (fun _ => ?_))))
        (repeat' (first | simp (maxSteps := 5000000) (implicitDefEqProofs := false) only [ruB, row_at, hltj, ho, w2, Int.natCast_nonneg, Int.ofNat_lt] | (with_reducible refine aIf_split (fun _ => ?_) (fun _ => ?_)) | (with_reducible refine aSel_split (fun _ => ?_) (fun _ => ?_)) | (with_reducible refine aGd_split (fun _ => ?_) (fun _ => ?_)) | (with_reducible refine aDraw_quiet (by kernel_rfl) ?_) | (with_reducible refine callI ?_)))
        refine between_I (b := 2) (a := 1) (x2 := 0) (x3 := 1000) (ts := [1, 2, 4, 10, 11, 14, 15, 65, 66, 67]) (env := [(1, eI (n : Int)), (2, sI c), (4, .op 2 0 0), (10, .op 0 0 0), (11, .sl 1 (fx.map fun n : Nat => [eI (n : Int)])), (14, eI ((j + 1 : Nat) : Int)), (15, eI (p : Int)), (65, .sl 1 (fx.map fun n : Nat => [eI (n : Int)])), (66, eI (fx.length : Int)), (67, eI ((j + 1 : Nat) : Int))]) (X := X) (g := z.gaps) (cap := cap) (A := A) o p ⟨rfl, rfl, fun o e => by cases e; exact ⟨rfl, trivial, trivial, trivial⟩, fun o e => (by cases e), (by simp), rfl, ⟨trivial, trivial, (by show (2 : Nat) < 5; omega), (by show (0 : Nat) < 5; omega), trivial, trivial, trivial, trivial, trivial, trivial, trivial⟩⟩ ⟨trivial, trivial, (by show (2 : Nat) < 3; omega), (by show (0 : Nat) < 3; omega), trivial, trivial, trivial, trivial, trivial, trivial, trivial⟩ (hsm A hAl) hpj (by omega) hbj hbk fun vs2 w A1 A' hW hU hD => ?_
        have hI2 : SmpInv z sc cap A' p := by
          have h5 : SmpInv z sc cap A ((fixL z).getD j 0) := by rw [hfj]; exact hInv
          have := h5.between (A' := A') (A1 := A1) (w := w) (by omega) (by omega) (fun i => (hgg i).1) (by rw [hfj, hfk]; exact hW) (by rw [hfj]; exact hU) (by rw [hfk]; exact hD) hscl2 hRj hSB
          rw [hfk] at this
          exact this
        by_cases hlast : j + 1 + 1 = fx.length
        · have b1 : (((j + 1 : Nat) : Int) == (fx.length : Int) - 1) = true := by rw [beq_iff_eq]; omega
          rw [if_pos hlast] at hupto
          (repeat' (first | simp (maxSteps := 5000000) (implicitDefEqProofs := false) only [ruA, ruB, aEv, aTake, aLoad, aField, aLen, aBin, bin2, ASt.get, aget, ASt.put, ↓reduceIte, reduceCtorEq, Nat.reduceLT, Nat.reduceEqDiff, Nat.reduceAdd, Nat.reduceLeDiff, eq_self, ne_eq, AV.shift, AV.shiftL, tyF_36_0, tyA_33, tyS_33, tyE_33, tyE_34, smpSt, shiftT_nil, shiftT_some, shiftT_none, AObj.shift, shiftEnv, b1, wF, hXl] | (with_reducible refine aIf_split (fun _ => ?_) (fun _ => ?_)) | (with_reducible refine aSel_split (fun _ => ?_) (fun _ => ?_)) | (with_reducible refine aGd_split (fun _ => ?_) (fun _ => ?_)) | (with_reducible refine aDraw_quiet (by kernel_rfl) ?_) | (with_reducible refine callI ?_)))
          refine up_I (b := 3) (a := 4) (x2 := 5) (x3 := 1000) (ts := [1, 2, 4, 10, 11, 14, 15, 65, 66, 67]) (env := [(1, eI (n : Int)), (2, sI c), (4, .op 2 0 0), (10, .op 0 0 0), (11, .sl 1 (fx.map fun n : Nat => [eI (n : Int)])), (14, eI ((j + 1 : Nat) : Int)), (15, eI (p : Int)), (65, .sl 1 (fx.map fun n : Nat => [eI (n : Int)])), (66, eI (fx.length : Int)), (67, eI ((j + 1 : Nat) : Int))]) (o2 := zBox X z.gaps) (o3 := none) (X := X) (g := z.gaps) (cap := cap) (A := A') p z.cls.length ⟨rfl, rfl, fun o e => by cases e; exact ⟨rfl, trivial, trivial, trivial⟩, fun o e => (by cases e), (by simp), rfl, ⟨trivial, trivial, (by show (2 : Nat) < 5; omega), (by show (0 : Nat) < 5; omega), trivial, trivial, trivial, trivial, trivial, trivial, trivial⟩⟩ (hsm A' hI2.len) (by omega) (by have := hI2.len; omega) (hAp' A' hI2) fun vs3 A2 hU2 => ?_
          (repeat' (first | simp (maxSteps := 5000000) (implicitDefEqProofs := false) only [ruA, ruB, aEv, aBin, bin2, ASt.get, aget, ASt.put, ↓reduceIte, Nat.reduceLT, Nat.reduceEqDiff, Nat.reduceAdd, eq_self, AV.shift, AV.shiftL, smpSt, shiftT_nil, shiftT_some, shiftT_none, AObj.shift, shiftEnv, w1] | (with_reducible refine aIf_split (fun _ => ?_) (fun _ => ?_)) | (with_reducible refine aSel_split (fun _ => ?_) (fun _ => ?_)) | (with_reducible refine aGd_split (fun _ => ?_) (fun _ => ?_)) | (with_reducible refine aDraw_quiet (by kernel_rfl) ?_)))
          exact roundI (weak_ren1 [10, 9, 8] ⟨(by decide), (by (first | ((simp only [envInR, tabInR, envLt, tabLt, AObj.lt, AV.lt, AV.ltL, AV.ren, AV.renL, AObj.ren, List.getD_cons_zero, List.getD_cons_succ, List.length_cons, List.length_nil, ruW, ASt.get, aget, ↓reduceIte, Nat.reduceLT, Nat.reduceEqDiff, Nat.reduceAdd, eq_self]) <;> (repeat' apply And.intro) <;> first | (rw [wrapK (by omega)]; done) | (simp; done) | omega) | fail))⟩) ⟨j + 1 + 1, A2, by omega, by rw [hupto]; exact hup3 A' hI2 hlast A2 hU2, rfl⟩ (by simp only [slotN, ruW, ASt.get, aget, ↓reduceIte, Nat.reduceLT, Nat.reduceEqDiff, eq_self]; omega)
        · have b1 : (((j + 1 : Nat) : Int) == (fx.length : Int) - 1) = false := by rw [beq_eq_false_iff_ne]; omega
          rw [if_neg hlast] at hupto
          (repeat' (first | simp (maxSteps := 5000000) (implicitDefEqProofs := false) only [ruA, ruB, aEv, aLen, aBin, bin2, ASt.get, aget, ASt.put, ↓reduceIte, Nat.reduceLT, Nat.reduceEqDiff, Nat.reduceAdd, eq_self, ne_eq, AV.shift, AV.shiftL, tyE_34, smpSt, shiftT_nil, shiftT_some, shiftT_none, AObj.shift, shiftEnv, b1, wF, w1] | (with_reducible refine aIf_split (fun _ => ?_) (fun _ => ?_)) | (with_reducible refine aSel_split (fun _ => ?_) (fun _ => ?_)) | (with_reducible refine aGd_split (fun _ => ?_) (fun _ => ?_)) | (with_reducible refine aDraw_quiet (by kernel_rfl) ?_)))
          exact roundI (weak_ren1 [5, 4, 3] ⟨(by decide), (by (first | ((simp only [envInR, tabInR, envLt, tabLt, AObj.lt, AV.lt, AV.ltL, AV.ren, AV.renL, AObj.ren, List.getD_cons_zero, List.getD_cons_succ, List.length_cons, List.length_nil, ruW, ASt.get, aget, ↓reduceIte, Nat.reduceLT, Nat.reduceEqDiff, Nat.reduceAdd, eq_self]) <;> (repeat' apply And.intro) <;> first | (rw [wrapK (by omega)]; done) | (simp; done) | omega) | fail))⟩) ⟨j + 1 + 1, A', by omega, by rw [hupto]; exact hI2, rfl⟩ (by simp only [slotN, ruW, ASt.get, aget, ↓reduceIte, Nat.reduceLT, Nat.reduceEqDiff, eq_self]; omega)
    · obtain rfl : k = fx.length := by omega
      (repeat' (first | simp (maxSteps := 5000000) (implicitDefEqProofs := false) only [ruA, ruB, aEv, aBin, bin2, ASt.get, aget, ASt.put, ↓reduceIte, Nat.reduceLT, Nat.reduceEqDiff, eq_self, hlt] | (with_reducible refine aIf_split (fun _ => ?_) (fun _ => ?_)) | (with_reducible refine aSel_split (fun _ => ?_) (fun _ => ?_)) | (with_reducible refine aGd_split (fun _ => ?_) (fun _ => ?_))))
      refine aTo_mk (weak_cut1 (by (first | ((simp only [envIn, tabIn, envLt, tabLt, AObj.lt, AV.lt, AV.ltL, ruW, ASt.get, aget, ↓reduceIte, Nat.reduceLT, Nat.reduceEqDiff, eq_self]) <;> (repeat' apply And.intro) <;> first | (rw [wrapK (by omega)]; done) | (simp; done) | omega) | fail))) ⟨A, ?_, rfl⟩
      unfold uptoN at hInv
      split at hInv
      · exact hInv
      · rw [if_neg (by omega), if_pos (by omega)] at hInv
        exact hInv
  clear hInv
  rintro _ ⟨A, hInv, rfl⟩
  have hAl := hInv.len
  have hfin := hfin A hInv
  have hbd := hInv.bd
  clear hX2 hS hCap hInv hscb hsm hscD
  have hrepn : List.replicate n [eI 0] = (List.replicate n (0 : Int)).map fun n => [eI n] := by simp
  have hXat : ∀ k (h : k < z.cls.length), X[k]?.getD [] = eCls z.cls[k] := fun k h => by
    subst hXX
    exact row_at h
  have hXlt : ∀ k, k < z.cls.length → k < X.length := fun k h => by omega
  refine sc_cut (fun st => st = ⟨134, [(1, eI (n : Int)), (4, .op 0 0 0), (10, .op 2 0 0)], [(0, zBox X z.gaps), (1, sRow A), (2, sBox X z.gaps cap 1)], 3⟩) (sc_of mixedT ?_) ?_
  · (repeat' (first | simp (maxSteps := 5000000) (implicitDefEqProofs := false) only [ruA, ruB, aEv, aTake, aLoad, aField, aUn, un1, ASt.get, aget, ASt.put, ↓reduceIte, reduceCtorEq, Nat.reduceLT, Nat.reduceEqDiff, eq_self, aNil, tyF_102_3, tyA_4, tyS_4] | (with_reducible refine aIf_split (fun _ => ?_) (fun _ => ?_)) | (with_reducible refine aSel_split (fun _ => ?_) (fun _ => ?_)) | (with_reducible refine aGd_split (fun _ => ?_) (fun _ => ?_)) | (with_reducible refine aDraw_quiet (by kernel_rfl) ?_)))
    exact aTo_mk (weak_cut1 (by (first | ((simp only [envIn, tabIn, envLt, tabLt, AObj.lt, AV.lt, AV.ltL, ruW, ASt.get, aget, ↓reduceIte, Nat.reduceLT, Nat.reduceEqDiff, eq_self]) <;> (repeat' apply And.intro) <;> first | (rw [wrapK (by omega)]; done) | (simp; done) | omega) | fail))) rfl
  rintro _ rfl
  refine sc_cut (fun st => st = ⟨134, [(4, .op 0 0 0), (10, .op 2 0 0), (16, .osl 3)], [(0, zBox X z.gaps), (1, sRow A), (2, sBox X z.gaps cap 1), (3, sRow (List.replicate n 0))], 4⟩) (sc_of mixedT ?_) ?_
  · (repeat' (first | simp (maxSteps := 5000000) (implicitDefEqProofs := false) only [ruA, ruB, aEv, ASt.get, aget, ASt.put, aMake, aCells, oneC, oneCL, Value.cells, Value.oneCell', ↓reduceIte, Nat.reduceLT, Nat.reduceAdd, eq_self, tyR_23, tyZ_2, hrepn] | (with_reducible refine aIf_split (fun _ => ?_) (fun _ => ?_)) | (with_reducible refine aSel_split (fun _ => ?_) (fun _ => ?_)) | (with_reducible refine aGd_split (fun _ => ?_) (fun _ => ?_)) | (with_reducible refine aDraw_quiet (by kernel_rfl) ?_) | (with_reducible apply And.intro)))
    all_goals first
      | omega
      | exact aTo_mk (weak_cut1 (by (first | ((simp only [envIn, tabIn, envLt, tabLt, AObj.lt, AV.lt, AV.ltL, ruW, ASt.get, aget, ↓reduceIte, reduceCtorEq, Nat.reduceLT, Nat.reduceEqDiff, eq_self]) <;> (repeat' apply And.intro) <;> first | (rw [wrapK (by omega)]; done) | (simp; done) | omega) | fail))) rfl
      | trace_state
  rintro _ rfl
  refine sc_of mixedT ?_
  (repeat' (first | simp (maxSteps := 5000000) (implicitDefEqProofs := false) only [ruA, ruB, aEv, aTake, aLoad, aField, aLen, ASt.get, aget, ASt.put, ↓reduceIte, reduceCtorEq, Nat.reduceLT, Nat.reduceAdd, Nat.reduceLeDiff, eq_self, ne_eq, tyF_36_0, tyA_33, tyS_33, tyE_33] | (with_reducible refine aIf_split (fun _ => ?_) (fun _ => ?_)) | (with_reducible refine aSel_split (fun _ => ?_) (fun _ => ?_)) | (with_reducible refine aGd_split (fun _ => ?_) (fun _ => ?_))))
  refine aLoop_of (fun st => ∃ (k : Nat) (v : List Int), k ≤ z.cls.length ∧ v.length = n ∧ (∀ i (h : i < z.cls.length), i < k → ∀ q, (aN z.cls[i]).testBit q = true → v.getD q 0 = A.getD i 0) ∧ st = ⟨134, [(4, .op 0 0 0), (10, .op 2 0 0), (16, .osl 3), (106, .sl 2 X), (107, eI (z.cls.length : Int)), (108, eI (k : Int))], [(0, zBox X z.gaps), (1, sRow A), (2, sBox X z.gaps cap 1), (3, sRow v)], 4⟩) (fun st => z.cls.length - slotN st 108) ⟨_, (weak_cut1 (by (first | ((simp only [envIn, tabIn, envLt, tabLt, AObj.lt, AV.lt, AV.ltL, ruW, ASt.get, aget, ↓reduceIte, Nat.reduceLT, Nat.reduceEqDiff, eq_self, hXl]) <;> (repeat' apply And.intro) <;> first | (rw [wrapK (by omega)]; done) | (simp; done) | omega) | fail))), 0, List.replicate n (0 : Int), Nat.zero_le _, List.length_replicate .., fun i _ h => by omega, rfl⟩ ?_
  rintro _ ⟨k, v, hk, hv, hset, rfl⟩
  by_cases hlt : k < z.cls.length
  · have d1 : decide (k < z.cls.length) = true := decide_eq_true hlt
    have hx := hXat k hlt
    have hxl := hXlt k hlt
    have w1 : IntKind.i64.wrap ((k : Int) + 1) = ((k + 1 : Nat) : Int) := wrapK (by omega)
    have hL := bitsList_A z.cls[k].attrs
    have hnn := hB.nn _ (List.getElem_mem hlt)
    have hbit : ∀ q : Nat, q ∈ lstN z.cls[k].attrs 31 ↔ (aN z.cls[k]).testBit q = true := fun q => by
      rw [lstN_mem]
      have hlow : low z.cls[k].attrs = aN z.cls[k] := by unfold low aN; omega
      constructor
      · rintro ⟨h1, h2⟩
        rw [hasB_low _ _ h1, hlow] at h2
        exact h2
      · intro h
        have h1 := hB.lt _ (List.getElem_mem hlt) q h
        exact ⟨by omega, by rw [hasB_low _ _ (by omega), hlow]; exact h⟩
    have hLn : ∀ q ∈ lstN z.cls[k].attrs 31, q < n := fun q hq => hB.lt _ (List.getElem_mem hlt) q ((hbit q).1 hq)
    have hdis : ∀ i (h : i < z.cls.length), i < k → ∀ q, q ∈ lstN z.cls[k].attrs 31 → (aN z.cls[i]).testBit q = true → False := fun i h hik q hq hb => by
      have := hB.dis i k h hlt q hb ((hbit q).1 hq)
      omega
    have hLl := lstN_len z.cls[k].attrs 31
    have hek : eCls z.cls[k] = [eI z.cls[k].attrs, eI z.cls[k].const] := rfl
    rw [hek] at hx
    generalize z.cls[k].attrs = at1 at *
    generalize z.cls[k].const = ct1 at *
    obtain ⟨L, hLe⟩ : ∃ L, lstN at1 31 = L := ⟨_, rfl⟩
    rw [hLe] at hL hbit hLn hdis hLl
    (repeat' (first | simp (maxSteps := 5000000) (implicitDefEqProofs := false) only [ruA, ruB, aEv, aTake, aLoad, aField, aIndex, aBin, bin2, ASt.get, aget, ASt.put, aStore, aBox, aCells, oneC, oneCL, Value.cells, Value.oneCell', ↓reduceIte, reduceCtorEq, Nat.reduceLT, Nat.reduceEqDiff, Nat.reduceAdd, Nat.reduceLeDiff, eq_self, tyE_33, tyA_3, tyS_3, tyA_63, tyS_63, tyZ_63, tyF_63_0, d1, hx, hxl, Int.natCast_nonneg, Int.ofNat_lt] | (with_reducible refine aIf_split (fun _ => ?_) (fun _ => ?_)) | (with_reducible refine aSel_split (fun _ => ?_) (fun _ => ?_)) | (with_reducible refine aGd_split (fun _ => ?_) (fun _ => ?_)) | (with_reducible refine aDraw_quiet (by kernel_rfl) ?_)))
    refine callO hL (.inr (fun row hr av ha => by
      obtain ⟨m, _, rfl⟩ := List.mem_map.1 hr
      simp at ha
      rw [ha]
      trivial)) ?_
    (repeat' (first | simp (maxSteps := 5000000) (implicitDefEqProofs := false) only [ruA, ruB, aEv, aLen, ASt.get, aget, ASt.put, ↓reduceIte, Nat.reduceLT, Nat.reduceAdd, eq_self, ne_eq, tyE_34] | (with_reducible refine aIf_split (fun _ => ?_) (fun _ => ?_)) | (with_reducible refine aSel_split (fun _ => ?_) (fun _ => ?_)) | (with_reducible refine aGd_split (fun _ => ?_) (fun _ => ?_))))
    refine aLoop_of (fun st => ∃ (j : Nat) (v' : List Int), j ≤ L.length ∧ v'.length = n ∧ (∀ i (h : i < z.cls.length), i < k → ∀ q, (aN z.cls[i]).testBit q = true → v'.getD q 0 = A.getD i 0) ∧ (∀ q ∈ L.take j, v'.getD q 0 = A.getD k 0) ∧ st = ⟨134, [(4, .op 0 0 0), (10, .op 2 0 0), (16, .osl 3), (17, eI (k : Int)), (106, .sl 2 X), (107, eI (z.cls.length : Int)), (108, eI (k : Int)), (115, .osl 4), (116, eI (L.length : Int)), (117, eI (j : Int))], [(0, zBox X z.gaps), (1, sRow A), (2, sBox X z.gaps cap 1), (3, sRow v'), (4, some (.row 3 1 (L.map fun n : Nat => [eI (n : Int)])))], 5⟩) (fun st => L.length - slotN st 117) ⟨_, (weak_ren1 [0, 1, 2, 3, 5] ⟨(by decide), (by (first | ((simp only [envInR, tabInR, envLt, tabLt, AObj.lt, AV.lt, AV.ltL, AV.ren, AV.renL, AObj.ren, List.getD_cons_zero, List.getD_cons_succ, List.length_cons, List.length_nil, ruW, ASt.get, aget, ↓reduceIte, reduceCtorEq, Nat.reduceLT, Nat.reduceEqDiff, Nat.reduceAdd, eq_self]) <;> (repeat' apply And.intro) <;> first | (rw [wrapK (by omega)]; done) | (simp; done) | omega) | fail))⟩), 0, v, Nat.zero_le _, hv, hset, fun q hq => by simp at hq, rfl⟩ ?_
    rintro _ ⟨j, v', hj, hv', hset', hdone, rfl⟩
    by_cases hjl : j < L.length
    · have d2 : decide (j < L.length) = true := decide_eq_true hjl
      have w2 : IntKind.i64.wrap ((j : Int) + 1) = ((j + 1 : Nat) : Int) := wrapK (by omega)
      have hkA : k < A.length := by omega
      have hLj := hLn _ (List.getElem_mem hjl)
      have hdj := fun i h hik => hdis i h hik _ (List.getElem_mem hjl)
      have htk : L.take (j + 1) = L.take j ++ [L[j]] := List.take_succ_eq_append_getElem hjl
      generalize hx2 : L[j] = a at *
      have hav : a < v'.length := by omega
      have hrow : (v'.map fun n : Int => [eI n]).set a [eI A[k]] = (v'.set a A[k]).map fun n => [eI n] := List.map_set.symm
      have hset2 : ∀ i (h : i < z.cls.length), i < k → ∀ q, (aN z.cls[i]).testBit q = true → (v'.set a A[k]).getD q 0 = A.getD i 0 := fun i h hik q hq => by
        rw [getD_set _ _ _ _ hav]
        split
        · rename_i e
          subst e
          exact (hdj i h hik hq).elim
        · exact hset' i h hik q hq
      have hdone2 : ∀ q ∈ L.take (j + 1), (v'.set a A[k]).getD q 0 = A.getD k 0 := fun q hq => by
        rw [getD_set _ _ _ _ hav]
        split
        · rw [gD_at hkA]
        · rename_i hne
          rw [htk, List.mem_append] at hq
          rcases hq with hq | hq
          · exact hdone q hq
          · simp at hq
            exact absurd hq.symm hne
      generalize hy : A[k] = y at *
      (repeat' (first | simp (maxSteps := 5000000) (implicitDefEqProofs := false) only [ruA, ruB, aEv, aTake, aLoad, aField, aIndex, aBin, bin2, ASt.get, aget, ASt.put, aStore, aCells, oneC, oneCL, treeC, treeL, Value.cells, Value.oneCell', ↓reduceIte, reduceCtorEq, Nat.reduceLT, Nat.reduceEqDiff, Nat.reduceAdd, Nat.reduceLeDiff, eq_self, aNil, tyE_34, tyA_3, tyS_3, tyF_102_2, tyA_23, tyS_23, tyE_23, tyA_2, tyS_2, row_at, hjl, hx2, hy, hv', hLj, hAl, hlt, hrow, w2, Int.natCast_nonneg, Int.ofNat_lt] | (with_reducible refine aIf_split (fun _ => ?_) (fun _ => ?_)) | (with_reducible refine aSel_split (fun _ => ?_) (fun _ => ?_)) | (with_reducible refine aGd_split (fun _ => ?_) (fun _ => ?_)) | (with_reducible refine aDraw_quiet (by kernel_rfl) ?_)))
      all_goals exact roundI (weak_cut1 (by (first | ((simp only [envIn, tabIn, envLt, tabLt, AObj.lt, AV.lt, AV.ltL, ruW, ASt.get, aget, ↓reduceIte, reduceCtorEq, Nat.reduceLT, Nat.reduceEqDiff, eq_self]) <;> (repeat' apply And.intro) <;> first | (rw [wrapK (by omega)]; done) | (simp; done) | omega) | fail))) ⟨j + 1, v'.set a y, by omega, by rw [List.length_set, hv'], hset2, hdone2, rfl⟩ (by simp only [slotN, ruW, ASt.get, aget, ↓reduceIte, Nat.reduceLT, Nat.reduceEqDiff, eq_self]; omega)
    · obtain rfl : j = L.length := by omega
      rw [List.take_length] at hdone
      (repeat' (first | simp (maxSteps := 5000000) (implicitDefEqProofs := false) only [ruA, ruB, aEv, aBin, bin2, ASt.get, aget, ASt.put, ↓reduceIte, Nat.reduceLT, Nat.reduceEqDiff, eq_self, hjl, w1] | (with_reducible refine aIf_split (fun _ => ?_) (fun _ => ?_)) | (with_reducible refine aSel_split (fun _ => ?_) (fun _ => ?_)) | (with_reducible refine aGd_split (fun _ => ?_) (fun _ => ?_)) | (with_reducible refine aDraw_quiet (by kernel_rfl) ?_)))
      all_goals refine roundI (weak_cut1 (by (first | ((simp only [envIn, tabIn, envLt, tabLt, AObj.lt, AV.lt, AV.ltL, ruW, ASt.get, aget, ↓reduceIte, Nat.reduceLT, Nat.reduceEqDiff, eq_self]) <;> (repeat' apply And.intro) <;> first | (rw [wrapK (by omega)]; done) | (simp; done) | omega) | fail))) ⟨k + 1, v', by omega, hv', fun i h hik q hq => ?_, rfl⟩ (by simp only [slotN, ruW, ASt.get, aget, ↓reduceIte, Nat.reduceLT, Nat.reduceEqDiff, eq_self]; omega)
      all_goals rcases Nat.lt_or_ge i k with h5 | h5
      · exact hset' i h h5 q hq
      · obtain rfl : i = k := by omega
        exact hdone q ((hbit q).2 hq)
  · obtain rfl : k = z.cls.length := by omega
    (repeat' (first | simp (maxSteps := 5000000) (implicitDefEqProofs := false) only [ruA, ruB, aEv, aBin, bin2, ASt.get, aget, ASt.put, aResL, aOne, ↓reduceIte, Nat.reduceLT, Nat.reduceEqDiff, eq_self, hlt] | (with_reducible refine aIf_split (fun _ => ?_) (fun _ => ?_)) | (with_reducible refine aSel_split (fun _ => ?_) (fun _ => ?_)) | (with_reducible refine aGd_split (fun _ => ?_) (fun _ => ?_))))
    have hA' := hfin v hv fun i h q hq => hset i h h q hq
    have hv64 : ∀ x ∈ v, ok64 x := fun x hx => by
      obtain ⟨q, hq, rfl⟩ := List.getElem_of_mem hx
      obtain ⟨i, hi, hb⟩ := hB.all q (by omega)
      have := hset i hi hi q hb
      rw [gD_at hq] at this
      rw [this]
      have := hbd i
      unfold ok64
      omega
    exact ⟨⟨.tup [.osl 0, eB true], [(0, some (.row 2 1 (v.map fun n => [eI n])))], 1⟩, Or.inr ⟨hC, v, rfl, hv, hA', hv64⟩, sample_ok, ⟨[3], by simp, rfl, ⟨Nat.zero_lt_one, ⟨_, _, _, rfl⟩, by simp [ATab.get_cons]⟩, trivial⟩⟩
end
section
open Go.RowKit
theorem sameZz_A (z : Zn) (h1 : z.cls.length ≤ 1000000) (h2 : z.gaps.length ≤ 1000000) : ADet Tryz.prog 31 [.agg (eZn z), .agg (eZn z)] (val (.bool true)) :=
  (sameZ_A z z h1 h2).mono fun R ⟨b, h3, h4⟩ => by rw [h3, h4.2 rfl]
end
section
open Go.RowKit
def SampleQ (z : Zn) (n : Int) (c : List Int) (r : Int) (R : Res) : Prop :=
  (¬ CheckP z n c r ∧ R = ⟨.tup [.c (.slice none 0 0), eB false], [], 0⟩) ∨ (CheckP z n c r ∧ ∃ v : List Int, R = ⟨.tup [.osl 0, eB true], [(0, some (.row 2 1 (v.map fun n => [eI n])))], 1⟩ ∧ (v.length : Int) = n ∧ zoneM v c r = z ∧ ∀ x ∈ v, ok64 x)
set_option maxRecDepth 100000 in
set_option maxHeartbeats 8000000 in
theorem sampleNo_A (z : Zn) (n : Int) (c : List Int) (r : Int) (h1 : z.cls.length ≤ 40) (h2 : z.gaps.length ≤ 40) (h3 : c.length ≤ 1000000) (hc : ∀ x ∈ c, ok64 x) (hno : ¬ CheckP z n c r) : ADet Tryz.prog 25 [.agg (eZn z), eI n, sI c, eI r] ⟨.tup [.c (.slice none 0 0), eB false], [], 0⟩ := by
  obtain ⟨t, ht, hCk⟩ := adet_iff (zoneCheck_A z n c r (by omega) (by omega) h3 hc)
  cases t with
  | true => exact (hno (ht.1 rfl)).elim
  | false =>
    have hok : (⟨.tup [.c (.slice none 0 0), eB false], [], 0⟩ : Res).Ok := ⟨fun id o h => (by cases h), ⟨trivial, trivial, trivial⟩⟩
    refine adet_of_code mixedT Tryz.func25 rfl (by decide) Tryz.ntmps25 Tryz.results25 rfl (hok) ?_
    (repeat' (first | simp (maxSteps := 5000000) (implicitDefEqProofs := false) only [ruA, ruB, aEv, aTake, aLoad, aUn, un1, ASt.get, aget, ASt.put, aBox, aCells, oneC, oneCL, envOf, aResL, aOne, ↓reduceIte, Nat.reduceLT, Nat.reduceEqDiff, Nat.reduceAdd, eq_self, tyA_36, tyS_36] | (with_reducible refine aIf_split (fun _ => ?_) (fun _ => ?_)) | (with_reducible refine aSel_split (fun _ => ?_) (fun _ => ?_)) | (with_reducible refine aGd_split (fun _ => ?_) (fun _ => ?_)) | (with_reducible refine aDraw_quiet (by kernel_rfl) ?_) | ((with_reducible apply callV); exact (hCk)) | ((with_reducible apply callD); exact (hCk))))
    all_goals exact ⟨[], by simp, rfl, trivial⟩
theorem sampleQ_A (z : Zn) (n : Int) (c : List Int) (r : Int) (h1 : z.cls.length ≤ 40) (h2 : z.gaps.length ≤ 40) (h3 : c.length ≤ 1000000) (hc : ∀ x ∈ c, -1099511627776 ≤ x ∧ x ≤ 1099511627776) (hr : capV r ≤ 1048576) (hat : ∀ x ∈ z.cls, x.attrs < 9223372036854775808) :
    ARel Tryz.prog 25 [.agg (eZn z), eI n, sI c, eI r] (SampleQ z n c r) := by
  by_cases h : CheckP z n c r
  · have hn : 0 ≤ n ∧ n ≤ 31 := h.1.1
    obtain ⟨m, rfl⟩ : ∃ m : Nat, n = (m : Int) := ⟨n.toNat, by omega⟩
    refine (sample_A z m c r h1 h2 h3 (by omega) hc hr hat).mono fun R hR => ?_
    rcases hR with hR | ⟨h4, v, h5, h6, h7, h8⟩
    · exact .inl hR
    · exact .inr ⟨h4, v, h5, by omega, h7, h8⟩
  · exact (sampleNo_A z n c r h1 h2 h3 (fun x hx => by have := hc x hx; unfold ok64; omega) h).mono fun R hR => .inl ⟨h, hR⟩
end
section
open Go.RowKit
structure Nd where
  z : Zn
  opn : Int
  don : Int
  did : List Int
  cnt : List Int
abbrev eNd (n : Nd) : List AV := [.sl 2 (n.z.cls.map eCls), sI n.z.gaps, eI n.opn, eI n.don, sI n.did, sI n.cnt]
set_option maxRecDepth 100000 in
set_option maxHeartbeats 8000000 in
theorem statusR_A (n : Nd) (h1 : n.did.length ≤ 1000000) (h2 : n.cnt.length ≤ 1000000) : ADet Tryz.prog 27 [.agg (eNd n)] ⟨.agg [.c (.slice none 0 0), eI n.opn, eI n.don, sI n.did, sI n.cnt], [], 0⟩ := by
  refine ADet.still (R := ⟨.agg [.c (.slice none 0 0), eI n.opn, eI n.don, .osl 0, .osl 1], [(0, some (.row 3 1 (n.did.map fun n => [eI n]))), (1, some (.row 3 1 (n.cnt.map fun n => [eI n])))], 2⟩) [0, 1] ?_ (by simp [Res.frzs, Res.frz, ATab.get_cons, AV.frz, AV.frzL, frzTab, AObj.frz]) (by simp [AV.lt, AV.ltL])
  refine adet_of_code mixedT Tryz.func27 rfl (by decide) Tryz.ntmps27 Tryz.results27 rfl (tab_ok (by simp [tabLt, AObj.lt]) (by simp [AV.lt, AV.ltL])) ?_
  (repeat' (first | simp (maxSteps := 5000000) (implicitDefEqProofs := false) only [ruA, ruB, aEv, ASt.get, aget, ASt.put, aBox, aCells, oneC, oneCL, Value.cells, Value.oneCell', envOf, ↓reduceIte, Nat.reduceLT, Nat.reduceAdd, eq_self, tyZ_43] | (with_reducible refine aIf_split (fun _ => ?_) (fun _ => ?_)) | (with_reducible refine aSel_split (fun _ => ?_) (fun _ => ?_)) | (with_reducible refine aGd_split (fun _ => ?_) (fun _ => ?_))))
  refine aDraw_held [1] [0, 1, 2, 3, 5, 6, 9, 10] (.two 4 (.two 7 (.exec 8 (.exec 11 (.take 12 (.exec 13 .done)))) 8 (.exec 7 (.exec 11 (.take 12 (.exec 13 .done))))) 8 (.exec 4 (.exec 7 (.exec 11 (.take 12 (.exec 13 .done)))))) (by kernel_rfl) (by simp [ATab.get_cons]) ?_
  (repeat' (first | simp (maxSteps := 5000000) (implicitDefEqProofs := false) only [ruA, ruB, aEv, aTake, aLoad, aField, ASt.get, aget, ASt.put, aAppend, aBuildSlice, aBuild, aFill, oneParts, aCells, oneC, oneCL, aLit, aDst, aSrc, appTab, Value.cells, Value.oneCell', aResL, aOne, ↓reduceIte, reduceCtorEq, Nat.reduceLT, Nat.reduceEqDiff, Nat.reduceAdd, Nat.reduceMul, Nat.reduceLeDiff, eq_self, aExecS, aStoreB, aTakes, aTakeE, aFrom, aFresh, aBuildSlice1, frzs, ownIds, aMay, tyA_43, tyS_43, tyF_38_1, tyA_3, tyS_3, tyF_38_2, tyR_34, tyF_38_3, tyA_34, tyS_34, tyF_38_4, tyB_43] | (with_reducible refine aIf_split (fun _ => ?_) (fun _ => ?_)) | (with_reducible refine aSel_split (fun _ => ?_) (fun _ => ?_)) | (with_reducible refine aGd_split (fun _ => ?_) (fun _ => ?_)) | (with_reducible refine aDraw_quiet (by kernel_rfl) ?_) | (with_reducible apply And.intro)))
  all_goals first
    | omega
    | rfl
    | exact ⟨[3, 5], by decide, rfl, by simp [aTabs, ATab.get_cons]⟩
    | exact ⟨[4, 5], by decide, rfl, by simp [aTabs, ATab.get_cons]⟩
    | exact ⟨[5, 4], by decide, rfl, by simp [aTabs, ATab.get_cons]⟩
    | exact ⟨[5, 3], by decide, rfl, by simp [aTabs, ATab.get_cons]⟩
    | trace_state
end
section
open Go.RowKit
set_option maxRecDepth 100000 in
set_option maxHeartbeats 8000000 in
theorem wild_A (m : Mod) (hle : m.events.length ≤ 9223372036854775807) : ARel Tryz.prog 4 [.agg (eMod m)] fun R => ∃ b, R = val (.bool b) ∧ (b = false → Fit m ∧ ∀ e ∈ m.events, e.times ≤ 10 ∧ e.sets.length ≤ 10) := by
  refine arel_of_code mixedT Tryz.func4 rfl (by decide) Tryz.ntmps4 Tryz.results4 rfl ?_
  (repeat' (first | simp (maxSteps := 5000000) (implicitDefEqProofs := false) only [ruA, ruB, aEv, ASt.get, aget, ASt.put, aBox, aCells, oneC, oneCL, envOf, ↓reduceIte, Nat.reduceLT, eq_self] | (with_reducible refine aIf_split (fun _ => ?_) (fun _ => ?_)) | (with_reducible refine aSel_split (fun _ => ?_) (fun _ => ?_)) | (with_reducible refine aGd_split (fun _ => ?_) (fun _ => ?_))))
  refine aLoop_of (fun st => ∃ k : Nat, k ≤ m.events.length ∧ (∀ i (h : i < m.events.length), i < k → m.events[i].times ≤ 10 ∧ m.events[i].sets.length ≤ 10) ∧ st = ⟨30, [(1, .op 0 0 0), (3, eI (k : Int))], [(0, some (.box 32 (eMod m)))], 1⟩) (fun st => m.events.length - slotN st 3) ⟨_, (weak_cut1 (by (first | ((simp only [envIn, tabIn, envLt, tabLt, AObj.lt, AV.lt, AV.ltL, ruW, ASt.get, aget, ↓reduceIte, Nat.reduceLT, Nat.reduceEqDiff, eq_self]) <;> (repeat' apply And.intro) <;> first | (rw [wrapK (by omega)]; done) | (simp; done) | omega) | fail))), 0, Nat.zero_le _, by simp, rfl⟩ ?_
  rintro _ ⟨k, hk, hI, rfl⟩
  by_cases hlt : k < m.events.length
  · obtain ⟨e, he⟩ : ∃ e, m.events[k] = e := ⟨_, rfl⟩
    have ew : IntKind.i64.wrap ((k : Int) + 1) = ((k + 1 : Nat) : Int) := by rw [wrap_in (by omega) (by omega)]; omega
    by_cases h1 : e.times ≤ 10
    · have d1 : decide (10 < e.times) = false := by simp only [decide_eq_false_iff_not]; omega
      by_cases h2 : e.sets.length ≤ 10
      · have d2 : decide (10 < (e.sets.length : Int)) = false := by simp only [decide_eq_false_iff_not]; omega
        have d3 : decide (10 < e.sets.length) = false := by simp only [decide_eq_false_iff_not]; omega
        (repeat' (first | simp (maxSteps := 5000000) (implicitDefEqProofs := false) only [ruA, ruB, aEv, aTake, aLoad, aField, aIndex, aLen, aBin, bin2, ASt.get, aget, ASt.put, ↓reduceIte, reduceCtorEq, Nat.reduceLT, Nat.reduceEqDiff, Nat.reduceAdd, Nat.reduceLeDiff, eq_self, ne_eq, tyF_32_5, tyA_26, tyS_26, tyE_26, tyF_51_4, tyA_3, tyS_3, tyF_51_3, tyA_34, tyS_34, tyE_34, row_at, hlt, he, d1, d2] | (with_reducible refine aIf_split (fun _ => ?_) (fun _ => ?_)) | (with_reducible refine aSel_split (fun _ => ?_) (fun _ => ?_)) | (with_reducible refine aGd_split (fun _ => ?_) (fun _ => ?_)) | (with_reducible refine aDraw_quiet (by kernel_rfl) ?_)))
        refine roundI (weak_cut1 (by (first | ((simp only [envIn, tabIn, envLt, tabLt, AObj.lt, AV.lt, AV.ltL, ruW, ASt.get, aget, ↓reduceIte, Nat.reduceLT, Nat.reduceEqDiff, eq_self, ew]) <;> (repeat' apply And.intro) <;> first | (rw [wrapK (by omega)]; done) | (simp; done) | omega) | fail))) ⟨k + 1, by omega, fun i hi hik => ?_, rfl⟩ (by simp only [slotN, ASt.get, aget, ↓reduceIte, Nat.reduceLT, Nat.reduceEqDiff, eq_self]; omega)
        rcases Nat.lt_or_ge i k with h | h
        · exact hI i hi h
        · obtain rfl : i = k := by omega
          rw [he]
          exact ⟨h1, h2⟩
      · have d2 : decide (10 < (e.sets.length : Int)) = true := by simp only [decide_eq_true_eq]; omega
        have d3 : decide (10 < e.sets.length) = true := by simp only [decide_eq_true_eq]; omega
        (repeat' (first | simp (maxSteps := 5000000) (implicitDefEqProofs := false) only [ruA, ruB, aEv, aTake, aLoad, aField, aIndex, aLen, aBin, bin2, ASt.get, aget, ASt.put, aResL, aOne, ↓reduceIte, reduceCtorEq, Nat.reduceLT, Nat.reduceEqDiff, Nat.reduceAdd, Nat.reduceLeDiff, eq_self, ne_eq, tyF_32_5, tyA_26, tyS_26, tyE_26, tyF_51_4, tyA_3, tyS_3, tyF_51_3, tyA_34, tyS_34, tyE_34, row_at, hlt, he, d1, d2] | (with_reducible refine aIf_split (fun _ => ?_) (fun _ => ?_)) | (with_reducible refine aSel_split (fun _ => ?_) (fun _ => ?_)) | (with_reducible refine aGd_split (fun _ => ?_) (fun _ => ?_)) | (with_reducible refine aDraw_quiet (by kernel_rfl) ?_)))
        exact retV ⟨true, rfl, by simp⟩
    · have d1 : decide (10 < e.times) = true := by simp only [decide_eq_true_eq]; omega
      (repeat' (first | simp (maxSteps := 5000000) (implicitDefEqProofs := false) only [ruA, ruB, aEv, aTake, aLoad, aField, aIndex, aLen, aBin, bin2, ASt.get, aget, ASt.put, aResL, aOne, ↓reduceIte, reduceCtorEq, Nat.reduceLT, Nat.reduceEqDiff, Nat.reduceAdd, Nat.reduceLeDiff, eq_self, ne_eq, tyF_32_5, tyA_26, tyS_26, tyE_26, tyF_51_4, tyA_3, tyS_3, row_at, hlt, he, d1] | (with_reducible refine aIf_split (fun _ => ?_) (fun _ => ?_)) | (with_reducible refine aSel_split (fun _ => ?_) (fun _ => ?_)) | (with_reducible refine aGd_split (fun _ => ?_) (fun _ => ?_)) | (with_reducible refine aDraw_quiet (by kernel_rfl) ?_)))
      exact retV ⟨true, rfl, by simp⟩
  · obtain rfl : k = m.events.length := by omega
    (repeat' (first | simp (maxSteps := 5000000) (implicitDefEqProofs := false) only [ruA, ruB, aEv, aTake, aLoad, aField, aLen, aBin, bin2, ASt.get, aget, ASt.put, ↓reduceIte, reduceCtorEq, Nat.reduceLT, Nat.reduceEqDiff, Nat.reduceAdd, Nat.reduceLeDiff, eq_self, ne_eq, tyF_32_5, tyA_26, tyS_26, tyE_26, tyA_32, tyS_32, hlt] | (with_reducible refine aIf_split (fun _ => ?_) (fun _ => ?_)) | (with_reducible refine aSel_split (fun _ => ?_) (fun _ => ?_)) | (with_reducible refine aGd_split (fun _ => ?_) (fun _ => ?_))))
    refine callPB (great12_A m) fun b hb => ?_
    (repeat' (first | simp (maxSteps := 5000000) (implicitDefEqProofs := false) only [ruA, aEv, ASt.get, aget, ASt.put, aResL, aOne, ↓reduceIte, Nat.reduceLT, eq_self] | (with_reducible refine aIf_split (fun _ => ?_) (fun _ => ?_)) | (with_reducible refine aSel_split (fun _ => ?_) (fun _ => ?_)) | (with_reducible refine aGd_split (fun _ => ?_) (fun _ => ?_))))
    refine retV ⟨b, rfl, fun h => ⟨hb h, fun e he => ?_⟩⟩
    obtain ⟨i, hi, rfl⟩ := List.getElem_of_mem he
    exact hI i hi hi
end
end Go.Proofs.YtbahakgmbceflaaGreat
