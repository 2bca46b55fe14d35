/-
  Parts of the proof: SoI, SoJ, SoK, SoM, SoN.
-/
import Derived.Test.YtbahakgmbceflaaGreatNsm8
set_option linter.unusedVariables false
set_option linter.unusedSimpArgs false
namespace Go.Proofs.YtbahakgmbceflaaGreat
section
open Go.RowKit
theorem isNaN64_A (a : Int) : ADet Tryz.prog 119 [eI a] (val (.bool false)) := by
  refine adet_of_code mixedT Tryz.func119 rfl (by decide) Tryz.ntmps119 Tryz.results119 rfl (val_ok _) ?_
  have h : (a != a) = false := by simp
  (repeat' (first | simp (maxSteps := 5000000) (implicitDefEqProofs := false) only [ruA, aEv, aBin, bin2, ASt.get, aget, ASt.put, envOf, aResL, aOne, ↓reduceIte, reduceCtorEq, Nat.reduceLT, Nat.reduceEqDiff, eq_self, h] | (with_reducible refine aIf_split (fun _ => ?_) (fun _ => ?_)) | (with_reducible refine aSel_split (fun _ => ?_) (fun _ => ?_)) | (with_reducible refine aGd_split (fun _ => ?_) (fun _ => ?_)) | (with_reducible refine aDraw_quiet (by kernel_rfl) ?_)))
theorem cmp64_A (a b : Int) : ADet Tryz.prog 99 [eI a, eI b] (val (.int .i64 (cmpI a b))) := by
  refine adet_of_code mixedT Tryz.func99 rfl (by decide) Tryz.ntmps99 Tryz.results99 rfl (val_ok _) ?_
  (repeat' (first | simp (maxSteps := 5000000) (implicitDefEqProofs := false) only [ruA, ruB, aEv, aBin, bin2, ASt.get, aget, ASt.put, envOf, aResL, aOne, ↓reduceIte, reduceCtorEq, Nat.reduceLT, Nat.reduceEqDiff, eq_self] | (with_reducible refine aIf_split (fun _ => ?_) (fun _ => ?_)) | (with_reducible refine aSel_split (fun _ => ?_) (fun _ => ?_)) | (with_reducible refine aGd_split (fun _ => ?_) (fun _ => ?_)) | (with_reducible refine aDraw_quiet (by kernel_rfl) ?_) | ((with_reducible apply callV (g := 119)); exact (isNaN64_A a)) | ((with_reducible apply callD (g := 119)); exact (isNaN64_A a)) | ((with_reducible apply callV (g := 119)); exact (isNaN64_A b)) | ((with_reducible apply callD (g := 119)); exact (isNaN64_A b))))
  all_goals (simp only [cmpI]; simp_all; try omega)
theorem points1_A : CmpOk 98 := fun x y => by
  refine adet_of_code mixedT Tryz.func98 rfl (by decide) Tryz.ntmps98 Tryz.results98 rfl (val_ok _) ?_
  (repeat' (first | simp (maxSteps := 5000000) (implicitDefEqProofs := false) only [ruA, ruB, aEv, aTake, aLoad, aField, ASt.get, aget, ASt.put, aBox, aCells, oneC, oneCL, Value.oneCell', envOf, aResL, aOne, ↓reduceIte, reduceCtorEq, Nat.reduceLT, Nat.reduceEqDiff, Nat.reduceAdd, Nat.reduceLeDiff, eq_self, tyF_141_0, tyA_2, tyS_2] | (with_reducible refine aIf_split (fun _ => ?_) (fun _ => ?_)) | (with_reducible refine aSel_split (fun _ => ?_) (fun _ => ?_)) | (with_reducible refine aGd_split (fun _ => ?_) (fun _ => ?_)) | (with_reducible refine aDraw_quiet (by kernel_rfl) ?_) | ((with_reducible apply callV (g := 99)); exact (cmp64_A x.n y.n)) | ((with_reducible apply callD (g := 99)); exact (cmp64_A x.n y.n))))
set_option maxRecDepth 100000 in
theorem bitsOf_A (i : Int) : ADet Tryz.prog 96 [.sl 1 [[eI i]]] (val (.int .i64 (withB 0 i))) := by
  refine adet_of_code mixedT Tryz.func96 rfl (by decide) Tryz.ntmps96 Tryz.results96 rfl (val_ok _) ?_
  (repeat' (first | simp (maxSteps := 5000000) (implicitDefEqProofs := false) only [ruA, ruB, aEv, aLen, ASt.get, aget, ASt.put, envOf, ↓reduceIte, reduceCtorEq, Nat.reduceLT, eq_self, ne_eq, tyE_34] | (with_reducible refine aIf_split (fun _ => ?_) (fun _ => ?_)) | (with_reducible refine aSel_split (fun _ => ?_) (fun _ => ?_)) | (with_reducible refine aGd_split (fun _ => ?_) (fun _ => ?_))))
  refine aLoop_of (fun st => ∃ (k : Nat) (s : Int), k ≤ 1 ∧ s = (if k = 0 then 0 else withB 0 i) ∧ st = ⟨17, [(3, eI s), (6, .sl 1 [[eI i]]), (7, eI 1), (8, eI (k : Int))], [], 0⟩) (fun st => 1 - slotN st 8) ⟨_, (weak_cut1 (by (first | ((simp only [envIn, tabIn, envLt, tabLt, AV.lt, ruW, ASt.get, aget, ↓reduceIte, Nat.reduceLT, Nat.reduceEqDiff, eq_self]) <;> (repeat' apply And.intro) <;> first | (rw [wrapK (by omega)]; done) | (simp; done) | omega) | fail))), 0, 0, Nat.zero_le _, rfl, rfl⟩ ?_
  rintro _ ⟨k, s, hk, hs, rfl⟩
  match k with
  | 0 =>
    simp only [if_true] at hs
    subst hs
    have d1 : decide (((0 : Nat) : Int) < 1) = true := by decide
    have d2 : decide ((0 : Int) < 1) = true := by decide
    (repeat' (first | simp (maxSteps := 5000000) (implicitDefEqProofs := false) only [ruA, ruB, aEv, aTake, aLoad, aIndex, aBin, bin2, ASt.get, aget, ASt.put, ↓reduceIte, reduceCtorEq, Nat.reduceLT, Nat.reduceEqDiff, eq_self, tyE_34, tyA_3, tyS_3, d1] | (with_reducible refine aIf_split (fun _ => ?_) (fun _ => ?_)) | (with_reducible refine aSel_split (fun _ => ?_) (fun _ => ?_)) | (with_reducible refine aGd_split (fun _ => ?_) (fun _ => ?_)) | (with_reducible refine aDraw_quiet (by kernel_rfl) ?_) | ((with_reducible apply callV (g := 103)); exact (with_A 0 i)) | ((with_reducible apply callD (g := 103)); exact (with_A 0 i))))
    all_goals first
      | exact roundI (weak_cut1 (by (first | ((simp only [envIn, tabIn, envLt, tabLt, AV.lt, ruW, ASt.get, aget, ↓reduceIte, Nat.reduceLT, Nat.reduceEqDiff, eq_self]) <;> (repeat' apply And.intro) <;> first | (rw [wrapK (by omega)]; done) | (simp; done) | omega) | fail))) ⟨1, withB 0 i, Nat.le_refl _, by simp, rfl⟩ (by simp only [slotN, ruW, ASt.get, aget, ↓reduceIte, Nat.reduceLT, Nat.reduceEqDiff, eq_self]; omega)
      | trace_state
  | 1 =>
    simp only [Nat.one_ne_zero, if_false] at hs
    subst hs
    have d1 : decide (((1 : Nat) : Int) < 1) = false := by decide
    (repeat' (first | simp (maxSteps := 5000000) (implicitDefEqProofs := false) only [ruA, ruB, aEv, aBin, bin2, ASt.get, aget, ASt.put, aResL, aOne, ↓reduceIte, Nat.reduceLT, Nat.reduceEqDiff, eq_self, d1] | (with_reducible refine aIf_split (fun _ => ?_) (fun _ => ?_)) | (with_reducible refine aSel_split (fun _ => ?_) (fun _ => ?_)) | (with_reducible refine aGd_split (fun _ => ?_) (fun _ => ?_)) | (with_reducible refine aDraw_quiet (by kernel_rfl) ?_)))
    all_goals trace_state
  | k + 2 => omega
theorem AMut.fn1 {P : Program} {f g : FuncId} {e : TypeId} {sz : Nat} {rows rows' : List (List AV)} (h : AMut P f e sz rows [.fn g []] rows') : AMut P f e sz rows [.c (.func (.func g) #[] #[])] rows' :=
  ⟨h.1, fun S w base v vs h1 hD h2 h3 h4 h5 => h.2 S w base v vs h1 hD h2 h3 h4 fun j x av hj hav => by
    match j with
    | 0 =>
      simp at hav
      subst hav
      rw [rtc (h5 0 x _ hj rfl)]
      exact .fn g #[] [] rfl fun j x av hx _ => by simp at hx
    | j + 1 => simp at hav⟩
set_option maxRecDepth 100000 in
set_option maxHeartbeats 8000000 in
theorem points_A (vals c : List Int) (h1 : vals.length ≤ 31) (h2 : c.length ≤ 1000) : ADet Tryz.prog 86 [sI vals, sI c] (own 141 3 ((numsL vals c).map fun n => encP ⟨n, (clsOf vals c n).attrs, (clsOf vals c n).const, 0⟩)) := by
  refine adet_of_code mixedT Tryz.func86 rfl (by decide) Tryz.ntmps86 Tryz.results86 rfl (own_ok _ _ _) ?_
  have hS := numSorted_A c (by omega)
  have hslen := sortR_len c
  have hfin := fun o (ho : Outs (srt (ptsL vals (sortR c))) o) => congrArg (List.map encP) (outs_all h1 ho)
  have htg := ptsL_tg vals (sortR c)
  have hpa := pts_a (vals := vals) (sc := sortR c) h1
  rw [List.map_map] at hfin
  obtain ⟨F, hF⟩ : ∃ F, ((numsL vals c).map fun n => encP ⟨n, (clsOf vals c n).attrs, (clsOf vals c n).const, 0⟩) = F := ⟨_, rfl⟩
  have hfin2 : ∀ o, Outs (srt (ptsL vals (sortR c))) o → (o.map (valP (srt (ptsL vals (sortR c))))).map encP = F := fun o ho => by
    rw [← hF, outs_all h1 ho, List.map_map]
    rfl
  clear hfin
  rw [hF]
  obtain ⟨sc, hsc⟩ : ∃ sc, sortR c = sc := ⟨_, rfl⟩
  rw [hsc] at hS hslen htg hpa hfin2
  clear hF hsc
  (repeat' (first | simp (maxSteps := 5000000) (implicitDefEqProofs := false) only [ruA, ruB, aEv, aLen, ASt.get, aget, ASt.put, envOf, ↓reduceIte, Nat.reduceLT, Nat.reduceEqDiff, eq_self, ne_eq, AV.shift, tyE_23] | (with_reducible refine aIf_split (fun _ => ?_) (fun _ => ?_)) | (with_reducible refine aSel_split (fun _ => ?_) (fun _ => ?_)) | (with_reducible refine aGd_split (fun _ => ?_) (fun _ => ?_)) | (with_reducible refine aDraw_quiet (by kernel_rfl) ?_) | ((with_reducible apply callT); exact (hS); exact (.inl (by simp [roL, roA])))))
  refine aLoop_of (fun st => ∃ k : Nat, k ≤ sc.length ∧ st = ⟨93, [(0, sI vals), (5, .osl 0), (15, sI sc), (16, eI (sc.length : Int)), (17, eI (k : Int))], [(0, some (.row 141 3 ((ptsC sc k).map encP)))], 1⟩) (fun st => sc.length - slotN st 17) ⟨_, ((weak_nil 5 141 3 (by simp only [ASt.get, aget, ↓reduceIte, Nat.reduceLT, Nat.reduceEqDiff, eq_self])).trans (weak_ren1 [0] ⟨(by decide), (by (first | ((simp only [envInR, tabInR, envLt, tabLt, AObj.lt, AV.lt, AV.ren, AObj.ren, List.getD_cons_zero, List.length_cons, List.length_nil, ruW, ASt.get, aget, ↓reduceIte, reduceCtorEq, Nat.reduceLT, Nat.reduceEqDiff, Nat.reduceAdd, eq_self, ptsC, List.range_zero]) <;> (repeat' apply And.intro) <;> first | (rw [wrapK (by omega)]; done) | (simp; done) | omega) | fail))⟩)), 0, Nat.zero_le _, rfl⟩ ?_
  rintro _ ⟨k, hk, rfl⟩
  by_cases hlt : k < sc.length
  · have hg : sc.getD k 0 = sc[k] := by rw [List.getD_eq_getElem?_getD, List.getElem?_eq_getElem hlt]; rfl
    have hsn : (ptsC sc (k + 1)).map encP = (ptsC sc k).map encP ++ [[eI sc[k], eI 0, eI (k : Int)]] := by
      rw [ptsC_snoc, List.map_append, hg]
      rfl
    have hpl := ptsC_len sc k
    (repeat' (first | simp (maxSteps := 5000000) (implicitDefEqProofs := false) only [ruA, ruB, aEv, aTake, aLoad, aIndex, aBin, bin2, ASt.get, aget, ASt.put, aAppend, aBuildSlice, aBuild, aFill, oneParts, aCells, oneC, oneCL, treeC, treeL, aLit, aDst, aSrc, appTab, Value.cells, Value.oneCell', ↓reduceIte, reduceCtorEq, Nat.reduceLT, Nat.reduceEqDiff, Nat.reduceAdd, Nat.reduceMul, Nat.reduceLeDiff, eq_self, aBuildSlice1, frzs, ownIds, tyE_23, tyA_2, tyS_2, tyB_63, tyB_141, tyR_138, row_at, hlt] | (with_reducible refine aIf_split (fun _ => ?_) (fun _ => ?_)) | (with_reducible refine aSel_split (fun _ => ?_) (fun _ => ?_)) | (with_reducible refine aGd_split (fun _ => ?_) (fun _ => ?_)) | (with_reducible refine aDraw_quiet (by kernel_rfl) ?_) | (with_reducible apply And.intro)))
    all_goals first
      | rfl
      | omega
      | exact roundI (weak_ren1 [2] ⟨(by decide), (by (first | ((simp only [envInR, tabInR, envLt, tabLt, AObj.lt, AV.lt, AV.ren, AObj.ren, List.getD_cons_zero, List.length_cons, List.length_nil, ruW, ASt.get, aget, ↓reduceIte, reduceCtorEq, Nat.reduceLT, Nat.reduceEqDiff, Nat.reduceAdd, eq_self, hsn]) <;> (repeat' apply And.intro) <;> first | (rw [wrapK (by omega)]; done) | (simp; done) | omega) | fail))⟩) ⟨k + 1, by omega, rfl⟩ (by simp only [slotN, ruW, ASt.get, aget, ↓reduceIte, Nat.reduceLT, Nat.reduceEqDiff, eq_self]; omega)
      | trace_state
  · obtain rfl : k = sc.length := by omega
    have hmin : min (vals.length : Int) 31 = (vals.length : Int) := by omega
    have hdt : List.drop (Int.toNat 0) (List.take vals.length (vals.map fun n => [eI n])) = vals.map fun n => [eI n] := by
      show List.drop 0 _ = _
      rw [List.drop_zero, List.take_of_length_le (by simp)]
    (repeat' (first | simp (maxSteps := 5000000) (implicitDefEqProofs := false) only [ruA, ruB, aEv, aLen, aBin, bin2, ASt.get, aget, ASt.put, ↓reduceIte, reduceCtorEq, Nat.reduceLT, Nat.reduceEqDiff, eq_self, ne_eq, aSliceW, aSlice, aSliceR, aBd, aMM, tyE_23, hlt, hmin] | (with_reducible refine aIf_split (fun _ => ?_) (fun _ => ?_)) | (with_reducible refine aSel_split (fun _ => ?_) (fun _ => ?_)) | (with_reducible refine aGd_split (fun _ => ?_) (fun _ => ?_)) | (with_reducible refine aDraw_quiet (by kernel_rfl) ?_)))
    refine aLoop_of (fun st => ∃ k : Nat, k ≤ vals.length ∧ st = ⟨93, [(5, .osl 0), (34, sI vals), (35, eI (vals.length : Int)), (36, eI (k : Int))], [(0, some (.row 141 3 ((ptsC sc sc.length ++ ptsV vals sc.length k).map encP)))], 1⟩) (fun st => vals.length - slotN st 36) ⟨_, (weak_cut1 (by (first | ((simp only [envIn, tabIn, envLt, tabLt, AObj.lt, AV.lt, ruW, ASt.get, aget, ↓reduceIte, Nat.reduceLT, Nat.reduceEqDiff, eq_self, ptsV, List.range_zero, hdt, List.length_map]) <;> (repeat' apply And.intro) <;> first | (rw [wrapK (by omega)]; done) | (simp; done) | omega) | fail))), 0, Nat.zero_le _, rfl⟩ ?_
    rintro _ ⟨k, hk, rfl⟩
    by_cases hlt : k < vals.length
    · have hg : vals.getD k 0 = vals[k] := by rw [List.getD_eq_getElem?_getD, List.getElem?_eq_getElem hlt]; rfl
      have hsn : (ptsC sc sc.length ++ ptsV vals sc.length (k + 1)).map encP = (ptsC sc sc.length ++ ptsV vals sc.length k).map encP ++ [[eI vals[k], eI (withB 0 (k : Int)), eI (-1)]] := by
        rw [ptsV_snoc, ← List.append_assoc, List.map_append, hg]
        rfl
      have hpl : (ptsC sc sc.length ++ ptsV vals sc.length k).length = sc.length + k := by rw [List.length_append, ptsC_len, ptsV_len]
      have hB := bitsOf_A (k : Int)
      (repeat' (first | simp (maxSteps := 5000000) (implicitDefEqProofs := false) only [ruA, ruB, aEv, aTake, aLoad, aIndex, aBin, bin2, ASt.get, aget, ASt.put, aAppend, aBuildSlice, aBuild, aFill, oneParts, aCells, oneC, oneCL, treeC, treeL, aLit, aDst, aSrc, appTab, Value.cells, Value.oneCell', ↓reduceIte, reduceCtorEq, Nat.reduceLT, Nat.reduceEqDiff, Nat.reduceAdd, Nat.reduceMul, Nat.reduceLeDiff, eq_self, aBuildSlice1, frzs, ownIds, tyE_23, tyA_2, tyS_2, tyB_63, tyB_141, tyR_138, tyR_34, row_at, hlt] | (with_reducible refine aIf_split (fun _ => ?_) (fun _ => ?_)) | (with_reducible refine aSel_split (fun _ => ?_) (fun _ => ?_)) | (with_reducible refine aGd_split (fun _ => ?_) (fun _ => ?_)) | (with_reducible refine aDraw_quiet (by kernel_rfl) ?_) | ((with_reducible apply callV); exact (hB)) | ((with_reducible apply callD); exact (hB)) | (with_reducible apply And.intro)))
      all_goals first
        | rfl
        | omega
        | exact roundI (weak_ren1 [3] ⟨(by decide), (by (first | ((simp only [envInR, tabInR, envLt, tabLt, AObj.lt, AV.lt, AV.ren, AObj.ren, List.getD_cons_zero, List.length_cons, List.length_nil, ruW, ASt.get, aget, ↓reduceIte, Nat.reduceLT, Nat.reduceEqDiff, Nat.reduceAdd, eq_self, hsn]) <;> (repeat' apply And.intro) <;> first | (rw [wrapK (by omega)]; done) | (simp; done) | omega) | fail))⟩) ⟨k + 1, by omega, rfl⟩ (by simp only [slotN, ruW, ASt.get, aget, ↓reduceIte, Nat.reduceLT, Nat.reduceEqDiff, eq_self]; omega)
        | trace_state
    · obtain rfl : k = vals.length := by omega
      (repeat' (first | simp (maxSteps := 5000000) (implicitDefEqProofs := false) only [ruA, ruB, aEv, aBin, bin2, ASt.get, aget, ASt.put, ↓reduceIte, Nat.reduceLT, Nat.reduceEqDiff, eq_self, hlt] | (with_reducible refine aIf_split (fun _ => ?_) (fun _ => ?_)) | (with_reducible refine aSel_split (fun _ => ?_) (fun _ => ?_)) | (with_reducible refine aGd_split (fun _ => ?_) (fun _ => ?_))))
      have hM := (sortStable_M _ points1_A (ptsC sc sc.length ++ ptsV vals sc.length vals.length) htg (by rw [List.length_append, ptsC_len, ptsV_len]; omega)).fn1
      have hSs : Srt (srt (ptsL vals sc)) := srt_sorted htg.dt
      have hSl : (srt (ptsL vals sc)).length ≤ 1100 := by
        rw [srt_len]
        unfold ptsL
        rw [List.length_append, ptsC_len, ptsV_len]
        omega
      have hSa : ∀ p ∈ srt (ptsL vals sc), orI 0 p.a = p.a := fun p hp => hpa p (srt_mem.1 hp)
      rw [show ptsC sc sc.length ++ ptsV vals sc.length vals.length = ptsL vals sc from rfl] at hM ⊢
      refine callM hM (by simp [ATab.get_cons]) (by simp [treeML, treeM, treeC]) ?_
      clear hM hpa htg
      generalize ptsL vals sc = l0 at *
      generalize srt l0 = S at *
      (repeat' (first | simp (maxSteps := 5000000) (implicitDefEqProofs := false) only [ruA, ruB, aEv, aLen, ASt.get, aget, ASt.put, ↓reduceIte, Nat.reduceLT, Nat.reduceEqDiff, eq_self, ne_eq, tyE_138] | (with_reducible refine aIf_split (fun _ => ?_) (fun _ => ?_)) | (with_reducible refine aSel_split (fun _ => ?_) (fun _ => ?_)) | (with_reducible refine aGd_split (fun _ => ?_) (fun _ => ?_)) | (with_reducible refine aDraw_quiet (by kernel_rfl) ?_)))
      refine aLoop_of (fun st => ∃ (k : Nat) (o : List Int), k ≤ S.length ∧ Outs (S.take k) o ∧ o.length ≤ k ∧ st = ⟨93, [(10, .osl 1), (53, .osl 0), (54, eI (S.length : Int)), (55, eI (k : Int))], [(0, some (.row 141 3 (S.map encP))), (1, some (.row 141 3 ((o.map (valP (S.take k))).map encP)))], 2⟩) (fun st => S.length - slotN st 55) ⟨_, ((weak_nil 10 141 3 (by simp only [ASt.get, aget, ↓reduceIte, Nat.reduceLT, Nat.reduceEqDiff, eq_self])).trans (weak_ren1 [0, 1] ⟨(by decide), (by (first | ((simp only [envInR, tabInR, envLt, tabLt, AObj.lt, AV.lt, AV.ren, AObj.ren, List.getD_cons_zero, List.getD_cons_succ, List.length_cons, List.length_nil, ruW, ASt.get, aget, ↓reduceIte, reduceCtorEq, Nat.reduceLT, Nat.reduceEqDiff, Nat.reduceAdd, eq_self]) <;> (repeat' apply And.intro) <;> first | (rw [wrapK (by omega)]; done) | (simp; done) | omega) | fail))⟩)), 0, [], Nat.zero_le _, ⟨List.Pairwise.nil, by simp⟩, Nat.le_refl _, rfl⟩ ?_
      rintro _ ⟨k, o, hk, ho, hol, rfl⟩
      by_cases hlt2 : k < S.length
      · have htk : S.take (k + 1) = S.take k ++ [S[k]] := List.take_succ_eq_append_getElem hlt2
        have hpa := hSa S[k] (List.getElem_mem hlt2)
        rcases outs_last hSs hlt2 ho with ⟨o1, rfl, hmax⟩ | hmax
        · have hO := outs_same ho
          have hmp := map_same ho hmax
          rw [← htk] at hO hmp
          have hst : (((o1 ++ [S[k].n]).map (valP (S.take k))).map encP).set o1.length [eI S[k].n, eI (bits .or .i64 (valP (S.take k) S[k].n).a S[k].a), eI (valP (S.take k) S[k].n).c] = ((o1 ++ [S[k].n]).map (valP (S.take (k + 1)))).map encP := by
            rw [hmp, List.map_append, List.map_singleton, List.map_append, List.map_append, List.map_singleton]
            rw [List.set_append_right _ _ (by simp)]
            simp
            rfl
          obtain ⟨hi, hyi⟩ := getEl (show ((o1 ++ [S[k].n]).map (valP (S.take k)))[o1.length]? = some (valP (S.take k) S[k].n) from by rw [List.map_append]; exact get_mid (by simp))
          have hyn : (valP (S.take k) S[k].n).n = S[k].n := rfl
          have hql : ((o1 ++ [S[k].n]).map (valP (S.take k))).length = o1.length + 1 := by simp
          have ho1 : o1.length < k := by rw [List.length_append] at hol; simp at hol; omega
          clear hmp ho hSa hSs
          generalize valP (S.take k) S[k].n = y at *
          generalize (o1 ++ [S[k].n]).map (valP (S.take k)) = q at *
          generalize hxk : S[k] = x at *
          have e1 : IntKind.i64.wrap (((q.length : Nat) : Int) - 1) = (o1.length : Int) := by rw [wrap_in (by omega) (by omega)]; omega
          have d1 : decide ((0 : Int) ≤ (o1.length : Int)) = true := by simp
          have d2 : (y.n == x.n) = true := by rw [hyn]; simp
          (repeat' (first | simp (maxSteps := 5000000) (implicitDefEqProofs := false) only [ruA, ruB, aEv, aTake, aLoad, aIndex, aLen, aBin, bin2, ASt.get, aget, ASt.put, aStore, aBox, aCells, oneC, oneCL, Value.cells, Value.oneCell', ↓reduceIte, Nat.reduceLT, Nat.reduceEqDiff, Nat.reduceAdd, eq_self, ne_eq, tyE_138, tyA_141, tyS_141, tyZ_141, row_at, hlt2, hxk, encP, e1] | (with_reducible refine aIf_split (fun _ => ?_) (fun _ => ?_)) | (with_reducible refine aSel_split (fun _ => ?_) (fun _ => ?_)) | (with_reducible refine aGd_split (fun _ => ?_) (fun _ => ?_))))
          refine aDraw_quiet (by kernel_rfl) ?_
          (repeat' (first | simp (maxSteps := 5000000) (implicitDefEqProofs := false) only [ruA, ruB, aEv, aTake, aLoad, aField, aIndex, aBin, bin2, ASt.get, aget, ASt.put, ↓reduceIte, reduceCtorEq, Nat.reduceLT, Nat.reduceEqDiff, Nat.reduceAdd, Nat.reduceLeDiff, eq_self, tyA_2, tyS_2, tyE_138, tyF_141_0, row_at, hi, hyi, encP, d2] | (with_reducible refine aIf_split (fun _ => ?_) (fun _ => ?_)) | (with_reducible refine aSel_split (fun _ => ?_) (fun _ => ?_)) | (with_reducible refine aGd_split (fun _ => ?_) (fun _ => ?_))))
          refine aDraw_held [1] [0, 1, 2, 3, 4, 6, 7, 8] (.exec 5 (.take 9 (.take 10 (.take 11 (.take 12 (.exec 13 .done)))))) (by kernel_rfl) (by simp [ATab.get_cons]) ?_
          (repeat' (first | simp (maxSteps := 5000000) (implicitDefEqProofs := false) only [ruA, ruB, aEv, aTake, aLoad, aField, aIndex, aBin, bin2, ASt.get, aget, ASt.put, aCells, oneC, oneCL, treeC, treeL, Value.cells, Value.oneCell', ↓reduceIte, reduceCtorEq, Nat.reduceLT, Nat.reduceEqDiff, Nat.reduceAdd, Nat.reduceLeDiff, eq_self, aExecS, aStoreB, aTakes, aTakeE, aFrom, aMay, tyE_138, tyF_141_1, tyF_63_0, tyA_3, tyS_3, row_at, hi, hyi, encP] | (with_reducible refine aIf_split (fun _ => ?_) (fun _ => ?_)) | (with_reducible refine aSel_split (fun _ => ?_) (fun _ => ?_)) | (with_reducible refine aGd_split (fun _ => ?_) (fun _ => ?_)) | (with_reducible refine aDraw_quiet (by kernel_rfl) ?_) | (with_reducible apply And.intro)))
          all_goals first
            | rfl
            | omega
            | exact roundI (weak_ren1 [0, 1] ⟨(by decide), (by (first | ((simp only [envInR, tabInR, envLt, tabLt, AObj.lt, AV.lt, AV.ren, AObj.ren, List.getD_cons_zero, List.getD_cons_succ, List.length_cons, List.length_nil, ruW, ASt.get, aget, ↓reduceIte, reduceCtorEq, Nat.reduceLT, Nat.reduceEqDiff, Nat.reduceAdd, eq_self, hyn, hst]) <;> (repeat' apply And.intro) <;> first | (rw [wrapK (by omega)]; done) | (simp; done) | omega) | fail))⟩) ⟨k + 1, o1 ++ [x.n], by omega, hO, by omega, rfl⟩ (by simp only [slotN, ruW, ASt.get, aget, ↓reduceIte, Nat.reduceLT, Nat.reduceEqDiff, eq_self]; omega)
            | trace_state
        · have hO := outs_new ho hmax
          have hmp := map_new ho hmax hpa
          rw [← htk] at hO hmp
          have hst : ((o ++ [S[k].n]).map (valP (S.take (k + 1)))).map encP = (o.map (valP (S.take k))).map encP ++ [[eI S[k].n, eI S[k].a, eI S[k].c]] := by
            rw [hmp, List.map_append]
            rfl
          have hql : (o.map (valP (S.take k))).length = o.length := List.length_map ..
          have hol2 : (o ++ [S[k].n]).length ≤ k + 1 := by simp; omega
          rcases List.eq_nil_or_concat o with rfl | ⟨o1, z, rfl⟩
          · clear hSa hSs hmp
            generalize hxk : S[k] = x at *
            have hst2 : encP (valP (S.take (k + 1)) x.n) = [eI x.n, eI x.a, eI x.c] := by simpa using hst
            have e1 : IntKind.i64.wrap (((0 : Nat) : Int) - 1) = -1 := by decide
            have d1 : decide ((0 : Int) ≤ -1) = false := by decide
            (repeat' (first | simp (maxSteps := 5000000) (implicitDefEqProofs := false) only [ruA, ruB, aEv, aTake, aLoad, aIndex, aLen, aBin, bin2, ASt.get, aget, ASt.put, aStore, aBox, aCells, oneC, oneCL, Value.cells, Value.oneCell', ↓reduceIte, Nat.reduceLT, Nat.reduceEqDiff, Nat.reduceAdd, eq_self, ne_eq, tyE_138, tyA_141, tyS_141, tyZ_141, row_at, hlt2, hxk, encP, e1] | (with_reducible refine aIf_split (fun _ => ?_) (fun _ => ?_)) | (with_reducible refine aSel_split (fun _ => ?_) (fun _ => ?_)) | (with_reducible refine aGd_split (fun _ => ?_) (fun _ => ?_))))
            refine aDraw_quiet (by kernel_rfl) ?_
            (repeat' (first | simp (maxSteps := 5000000) (implicitDefEqProofs := false) only [ruA, ruB, aEv, aTake, aLoad, aBin, bin2, ASt.get, aget, ASt.put, aAppend, aBuildSlice, aCells, oneC, oneCL, treeC, treeL, aLit, aDst, aSrc, appTab, Value.cells, Value.oneCell', ↓reduceIte, Nat.reduceLT, Nat.reduceEqDiff, Nat.reduceAdd, Nat.reduceMul, Nat.reduceLeDiff, eq_self, aBuildSlice1, frzs, ownIds, tyR_138, tyA_141, tyS_141, d1] | (with_reducible refine aIf_split (fun _ => ?_) (fun _ => ?_)) | (with_reducible refine aSel_split (fun _ => ?_) (fun _ => ?_)) | (with_reducible refine aGd_split (fun _ => ?_) (fun _ => ?_)) | (with_reducible refine aDraw_quiet (by kernel_rfl) ?_) | (with_reducible apply And.intro)))
            · rfl
            all_goals first
              | exact roundI (weak_ren1 [0, 4] ⟨(by decide), (by (first | ((simp only [envInR, tabInR, envLt, tabLt, AObj.lt, AV.lt, AV.ren, AObj.ren, List.getD_cons_zero, List.getD_cons_succ, List.length_cons, List.length_nil, ruW, ASt.get, aget, ↓reduceIte, reduceCtorEq, Nat.reduceLT, Nat.reduceEqDiff, Nat.reduceAdd, eq_self, hst2]) <;> (repeat' apply And.intro) <;> first | (rw [wrapK (by omega)]; done) | (simp; done) | omega) | fail))⟩) ⟨k + 1, [x.n], by omega, hO, by simp, rfl⟩ (by simp only [slotN, ruW, ASt.get, aget, ↓reduceIte, Nat.reduceLT, Nat.reduceEqDiff, eq_self]; omega)
          · have hz : z < S[k].n := hmax z (by simp)
            have hcl : (o1.concat z).length = o1.length + 1 := by simp
            obtain ⟨hi, hyi⟩ := getEl (show ((o1.concat z).map (valP (S.take k)))[o1.length]? = some (valP (S.take k) z) from by rw [List.concat_eq_append, List.map_append]; exact get_mid (by simp))
            have hyn : (valP (S.take k) z).n = z := rfl
            clear hSa hSs hmp
            generalize valP (S.take k) z = y at *
            generalize (o1.concat z).map (valP (S.take k)) = q at *
            generalize o1.concat z = o at *
            generalize hxk : S[k] = x at *
            have e1 : IntKind.i64.wrap (((q.length : Nat) : Int) - 1) = (o1.length : Int) := by rw [wrap_in (by omega) (by omega)]; omega
            have d1 : decide ((0 : Int) ≤ (o1.length : Int)) = true := by simp
            have d2 : (y.n == x.n) = false := by rw [hyn]; simp; omega
            (repeat' (first | simp (maxSteps := 5000000) (implicitDefEqProofs := false) only [ruA, ruB, aEv, aTake, aLoad, aIndex, aLen, aBin, bin2, ASt.get, aget, ASt.put, aStore, aBox, aCells, oneC, oneCL, Value.cells, Value.oneCell', ↓reduceIte, Nat.reduceLT, Nat.reduceEqDiff, Nat.reduceAdd, eq_self, ne_eq, tyE_138, tyA_141, tyS_141, tyZ_141, row_at, hlt2, hxk, encP, e1] | (with_reducible refine aIf_split (fun _ => ?_) (fun _ => ?_)) | (with_reducible refine aSel_split (fun _ => ?_) (fun _ => ?_)) | (with_reducible refine aGd_split (fun _ => ?_) (fun _ => ?_))))
            refine aDraw_quiet (by kernel_rfl) ?_
            (repeat' (first | simp (maxSteps := 5000000) (implicitDefEqProofs := false) only [ruA, ruB, aEv, aTake, aLoad, aField, aIndex, aBin, bin2, ASt.get, aget, ASt.put, aAppend, aBuildSlice, aCells, oneC, oneCL, treeC, treeL, aLit, aDst, aSrc, appTab, Value.cells, Value.oneCell', ↓reduceIte, reduceCtorEq, Nat.reduceLT, Nat.reduceEqDiff, Nat.reduceAdd, Nat.reduceMul, Nat.reduceLeDiff, eq_self, aBuildSlice1, frzs, ownIds, tyA_2, tyS_2, tyR_138, tyE_138, tyA_141, tyS_141, tyF_141_0, row_at, hi, hyi, encP, d2] | (with_reducible refine aIf_split (fun _ => ?_) (fun _ => ?_)) | (with_reducible refine aSel_split (fun _ => ?_) (fun _ => ?_)) | (with_reducible refine aGd_split (fun _ => ?_) (fun _ => ?_)) | (with_reducible refine aDraw_quiet (by kernel_rfl) ?_) | (with_reducible apply And.intro)))
            all_goals first
              | rfl
              | omega
              | exact roundI (weak_ren1 [0, 4] ⟨(by decide), (by (first | ((simp only [envInR, tabInR, envLt, tabLt, AObj.lt, AV.lt, AV.ren, AObj.ren, List.getD_cons_zero, List.getD_cons_succ, List.length_cons, List.length_nil, ruW, ASt.get, aget, ↓reduceIte, reduceCtorEq, Nat.reduceLT, Nat.reduceEqDiff, Nat.reduceAdd, eq_self, hst]) <;> (repeat' apply And.intro) <;> first | (rw [wrapK (by omega)]; done) | (simp; done) | omega) | fail))⟩) ⟨k + 1, o ++ [x.n], by omega, hO, hol2, rfl⟩ (by simp only [slotN, ruW, ASt.get, aget, ↓reduceIte, Nat.reduceLT, Nat.reduceEqDiff, eq_self]; omega)
              | trace_state
      · obtain rfl : k = S.length := by omega
        rw [List.take_length] at ho ⊢
        rw [hfin2 o ho]
        (repeat' (first | simp (maxSteps := 5000000) (implicitDefEqProofs := false) only [ruA, ruB, aEv, aBin, bin2, ASt.get, aget, ASt.put, aResL, aOne, ↓reduceIte, Nat.reduceLT, Nat.reduceEqDiff, eq_self, hlt2] | (with_reducible refine aIf_split (fun _ => ?_) (fun _ => ?_)) | (with_reducible refine aSel_split (fun _ => ?_) (fun _ => ?_)) | (with_reducible refine aGd_split (fun _ => ?_) (fun _ => ?_)) | (with_reducible refine aDraw_quiet (by kernel_rfl) ?_)))
        all_goals exact aGives_own (by simp [ATab.get_cons])
end
section
open Go.RowKit
theorem halveCap_A (r : Int) : ADet Tryz.prog 49 [eI r] (val (.int .i64 (capV r))) := by
  refine adet_of_code mixedT Tryz.func49 rfl (by decide) Tryz.ntmps49 Tryz.results49 rfl (val_ok _) ?_
  have e0 : (max 0 (min r 20)).toNat = min r.toNat 20 := by omega
  have h0 : ¬ (max 0 (min r 20) < 0) := by omega
  have h2 : (max 0 (min r 20)).toNat ≤ 20 := by omega
  have h1 : min (max 0 (min r 20)).toNat IntKind.i64.bits = (max 0 (min r 20)).toNat := by
    have : IntKind.i64.bits = 64 := rfl
    omega
  have hp : (1 : Int) ≤ 2 ^ (max 0 (min r 20)).toNat ∧ (2 : Int) ^ (max 0 (min r 20)).toNat ≤ 1048576 := by
    have h3 : 2 ^ (max 0 (min r 20)).toNat ≤ 2 ^ 20 := Nat.pow_le_pow_right (by omega) h2
    have h4 : 1 ≤ 2 ^ (max 0 (min r 20)).toNat := Nat.one_le_two_pow
    have e : (2 : Int) ^ (max 0 (min r 20)).toNat = ((2 ^ (max 0 (min r 20)).toNat : Nat) : Int) := by simp
    rw [e]
    omega
  have w1 : IntKind.i64.wrap (1 * 2 ^ (max 0 (min r 20)).toNat) = 2 ^ (max 0 (min r 20)).toNat := by
    rw [Int.one_mul]
    exact wrap_in (by omega) (by omega)
  have w2 : IntKind.i64.wrap (2 ^ (max 0 (min r 20)).toNat - 1) = 2 ^ (max 0 (min r 20)).toNat - 1 := wrap_in (by omega) (by omega)
  unfold capV
  rw [← e0]
  (repeat' (first | simp (maxSteps := 5000000) (implicitDefEqProofs := false) only [ruA, aEv, aBin, bin2, ASt.get, aget, ASt.put, envOf, aResL, aOne, ↓reduceIte, reduceCtorEq, Nat.reduceLT, eq_self, aMM, h0, h1, w1, w2] | (with_reducible refine aIf_split (fun _ => ?_) (fun _ => ?_)) | (with_reducible refine aSel_split (fun _ => ?_) (fun _ => ?_)) | (with_reducible refine aGd_split (fun _ => ?_) (fun _ => ?_))))
theorem wrapu64 (x : Int) : IntKind.u64.wrap x = x % 18446744073709551616 := by
  simp [IntKind.wrap, IntKind.bits, IntKind.signed]
theorem numGap_A (a b m : Int) (ha : ok64 a) (hb : ok64 b) (hm : ok64 m) : ADet Tryz.prog 87 [eI a, eI b, eI m] (val (.int .i64 (gapV a b m))) := by
  refine adet_of_code mixedT Tryz.func87 rfl (by decide) Tryz.ntmps87 Tryz.results87 rfl (val_ok _) ?_
  unfold ok64 at ha hb hm
  by_cases h1 : m ≤ 0
  · have d1 : decide (m ≤ 0) = true := by simpa using h1
    have e : gapV a b m = 0 := by unfold gapV; omega
    rw [e]
    (repeat' (first | simp (maxSteps := 5000000) (implicitDefEqProofs := false) only [ruA, ruB, aEv, aBin, bin2, ASt.get, aget, ASt.put, envOf, aResL, aOne, ↓reduceIte, Nat.reduceLT, Nat.reduceEqDiff, Nat.reduceAdd, eq_self, d1] | (with_reducible refine aIf_split (fun _ => ?_) (fun _ => ?_)) | (with_reducible refine aSel_split (fun _ => ?_) (fun _ => ?_)) | (with_reducible refine aGd_split (fun _ => ?_) (fun _ => ?_)) | (with_reducible refine aDraw_quiet (by kernel_rfl) ?_)))
  · have d1 : decide (m ≤ 0) = false := by simpa using h1
    by_cases h2 : b ≤ a
    · have d2 : decide (b ≤ a) = true := by simpa using h2
      have e : gapV a b m = 0 := by unfold gapV; omega
      rw [e]
      (repeat' (first | simp (maxSteps := 5000000) (implicitDefEqProofs := false) only [ruA, ruB, aEv, aBin, bin2, ASt.get, aget, ASt.put, envOf, aResL, aOne, ↓reduceIte, reduceCtorEq, Nat.reduceLT, Nat.reduceEqDiff, Nat.reduceAdd, eq_self, d1, d2] | (with_reducible refine aIf_split (fun _ => ?_) (fun _ => ?_)) | (with_reducible refine aSel_split (fun _ => ?_) (fun _ => ?_)) | (with_reducible refine aGd_split (fun _ => ?_) (fun _ => ?_)) | (with_reducible refine aDraw_quiet (by kernel_rfl) ?_)))
    · have d2 : decide (b ≤ a) = false := by simpa using h2
      have e1 : IntKind.u64.wrap (IntKind.u64.wrap (IntKind.u64.wrap b - IntKind.u64.wrap a) - 1) = b - a - 1 := by
        rw [wrapu64, wrapu64, wrapu64, wrapu64]
        omega
      have e2 : IntKind.u64.wrap m = m := by rw [wrapu64]; omega
      have e3 : IntKind.i64.wrap (min (b - a - 1) m) = gapV a b m := by unfold gapV; rw [wrap_in (by omega) (by omega)]; omega
      (repeat' (first | simp (maxSteps := 5000000) (implicitDefEqProofs := false) only [ruA, ruB, aEv, aBin, bin2, aConv, ASt.get, aget, ASt.put, envOf, aResL, aOne, ↓reduceIte, reduceCtorEq, Nat.reduceLT, Nat.reduceEqDiff, Nat.reduceAdd, eq_self, aMM, tyI_2, tyI_154, tyI_3, d1, d2, e1, e2, e3] | (with_reducible refine aIf_split (fun _ => ?_) (fun _ => ?_)) | (with_reducible refine aSel_split (fun _ => ?_) (fun _ => ?_)) | (with_reducible refine aGd_split (fun _ => ?_) (fun _ => ?_)) | (with_reducible refine aDraw_quiet (by kernel_rfl) ?_)))
theorem capV_0 (r : Int) : 0 ≤ capV r := by
  have h1 : 1 ≤ (2 : Nat) ^ (min r.toNat 20) := Nat.one_le_two_pow
  have h2 : ((2 ^ (min r.toNat 20) : Nat) : Int) = (2 : Int) ^ (min r.toNat 20) := by simp
  unfold capV
  omega
def gapsK (L : List Int) (r : Int) (k : Nat) : List Int := (List.range (L.length - 1)).map fun i => if i < k then gapV (L.getD i 0) (L.getD (i + 1) 0) (capV r) else 0
theorem gapsK_len (L : List Int) (r : Int) (k : Nat) : (gapsK L r k).length = L.length - 1 := by simp [gapsK]
theorem gapsK_0 (L : List Int) (r : Int) : gapsK L r 0 = List.replicate (L.length - 1) 0 := by
  apply List.ext_getElem
  · simp [gapsK]
  · intro i h1 h2
    simp [gapsK]
theorem gapsK_all (L : List Int) (r : Int) : gapsK L r (L.length - 1) = gapsN L r L.length := by
  unfold gapsK gapsN
  refine List.map_congr_left fun i hi => ?_
  rw [if_pos (by simpa using hi)]
theorem gapsK_set (L : List Int) (r : Int) {k : Nat} (hk : k < L.length - 1) : (gapsK L r k).set k (gapV (L.getD k 0) (L.getD (k + 1) 0) (capV r)) = gapsK L r (k + 1) := by
  apply List.ext_getElem
  · simp [gapsK]
  · intro i h1 h2
    rw [List.getElem_set]
    simp only [gapsK, List.getElem_map, List.getElem_range]
    by_cases h : k = i
    · subst h
      rw [if_pos rfl, if_pos (by omega)]
    · rw [if_neg h]
      by_cases h3 : i < k
      · rw [if_pos h3, if_pos (by omega)]
      · rw [if_neg h3, if_neg (by omega)]
set_option maxRecDepth 100000 in
set_option maxHeartbeats 16000000 in
theorem zoneOfC_A (vals c : List Int) (r : Int) (h1 : vals.length ≤ 31) (h2 : c.length ≤ 400) (hv : ∀ x ∈ vals, ok64 x) (hc : ∀ x ∈ c, ok64 x) : ADet Tryz.prog 70 [sI vals, sI c, eI r] ⟨.agg (eZn (zoneM vals c r)), [], 0⟩ := by
  refine ADet.still (R := ⟨.agg [.osl 0, .osl 1], [(0, some (.row 63 2 ((clsL vals c).map eCls))), (1, some (.row 3 1 ((gapsN (numsL vals c) r (numsL vals c).length).map fun n => [eI n])))], 2⟩) [0, 1] ?_ (by simp [Res.frzs, Res.frz, ATab.get_cons, AV.frz, AV.frzL, frzTab, AObj.frz, zoneM]) (by simp [AV.lt, AV.ltL])
  refine adet_of_code mixedT Tryz.func70 rfl (by decide) Tryz.ntmps70 Tryz.results70 rfl (tab_ok (by simp [tabLt, AObj.lt]) (by simp [AV.lt, AV.ltL])) ?_
  have hP := points_A vals c h1 (by omega)
  have hLlen : (numsL vals c).length ≤ 431 := by have := sortR_len (vals ++ c); simp at this; unfold numsL; omega
  have hLok : ∀ x ∈ numsL vals c, ok64 x := fun x hx => by
    have := ((sortR_up (vals ++ c)).2 x).1 hx
    rcases List.mem_append.1 this with h | h
    · exact hv x h
    · exact hc x h
  have hcls : clsL vals c = (numsL vals c).map (clsOf vals c) := rfl
  rw [hcls]
  obtain ⟨cf, hcf⟩ : ∃ f, clsOf vals c = f := ⟨_, rfl⟩
  obtain ⟨L, hL⟩ : ∃ l, numsL vals c = l := ⟨_, rfl⟩
  rw [hcf, hL] at hP ⊢
  rw [hL] at hLlen hLok
  clear hcls hcf hL
  obtain ⟨pf, hpf⟩ : ∃ f, (fun n => encP ⟨n, (cf n).attrs, (cf n).const, 0⟩) = f := ⟨_, rfl⟩
  rw [hpf] at hP
  have hpe : ∀ n, pf n = [eI n, eI (cf n).attrs, eI (cf n).const] := fun n => by rw [← hpf]; rfl
  clear hpf
  have hpp : ∀ row ∈ L.map pf, ∀ av ∈ row, av.plain := fun row hr av ha => by
    obtain ⟨n, _, rfl⟩ := List.mem_map.1 hr
    rw [hpe] at ha
    simp at ha
    rcases ha with rfl | rfl | rfl <;> simp [AV.plain]
  (repeat' (first | simp (maxSteps := 5000000) (implicitDefEqProofs := false) only [ruA, ruB, aEv, ASt.get, aget, ASt.put, aBox, aCells, oneC, oneCL, Value.cells, Value.oneCell', envOf, ↓reduceIte, reduceCtorEq, Nat.reduceLT, Nat.reduceEqDiff, Nat.reduceAdd, eq_self, tyZ_36] | (with_reducible refine aIf_split (fun _ => ?_) (fun _ => ?_)) | (with_reducible refine aSel_split (fun _ => ?_) (fun _ => ?_)) | (with_reducible refine aGd_split (fun _ => ?_) (fun _ => ?_))))
  refine callO hP (.inr hpp) ?_
  (repeat' (first | simp (maxSteps := 5000000) (implicitDefEqProofs := false) only [ruA, ruB, aEv, aLen, ASt.get, aget, ASt.put, ↓reduceIte, Nat.reduceLT, Nat.reduceAdd, eq_self, ne_eq, tyE_138] | (with_reducible refine aIf_split (fun _ => ?_) (fun _ => ?_)) | (with_reducible refine aSel_split (fun _ => ?_) (fun _ => ?_)) | (with_reducible refine aGd_split (fun _ => ?_) (fun _ => ?_))))
  refine aLoop_of (fun st => ∃ k : Nat, k ≤ L.length ∧ st = ⟨65, [(0, sI vals), (1, sI c), (2, eI r), (6, .op 0 0 0), (7, .op 1 0 0), (14, .osl 2), (15, eI (L.length : Int)), (16, eI (k : Int))], [(0, some (.box 36 [.c (.slice none 0 0), .c (.slice none 0 0)])), (1, some (.box 36 [.osl 3, .osl 4])), (2, some (.row 141 3 (L.map pf))), (3, some (.row 63 2 ((L.take k).map fun n => eCls (cf n)))), (4, some (.row 3 1 ((List.replicate (k - 1) (0 : Int)).map fun n => [eI n])))], 5⟩) (fun st => L.length - slotN st 16)
    ⟨_, ((weak_nilbox 1 0 63 2 (t := 36) (cells := [.c (.slice none 0 0), .c (.slice none 0 0)]) (by simp [ATab.get_cons]) rfl).trans ((weak_nilbox 1 1 3 1 (t := 36) (cells := [.osl 3, .c (.slice none 0 0)]) (by simp [ATab.get_cons]) rfl).trans (weak_cut1 (by (first | ((simp only [envIn, tabIn, envLt, tabLt, AObj.lt, AV.lt, AV.ltL, ruW, ASt.get, aget, ↓reduceIte, reduceCtorEq, Nat.reduceLT, Nat.reduceEqDiff, Nat.reduceAdd, eq_self, List.set_cons_zero, List.set_cons_succ, List.take_zero, List.replicate_zero, Nat.zero_sub]) <;> (repeat' apply And.intro) <;> first | (rw [wrapK (by omega)]; done) | (simp; done) | omega) | fail))))), 0, Nat.zero_le _, rfl⟩ ?_
  rintro _ ⟨k, hk, rfl⟩
  by_cases hlt : k < L.length
  · obtain ⟨n, hn⟩ : ∃ n, L[k] = n := ⟨_, rfl⟩
    have hpn := hpe n
    have hsn : (L.take (k + 1)).map (fun n => eCls (cf n)) = (L.take k).map (fun n => eCls (cf n)) ++ [[eI (cf n).attrs, eI (cf n).const]] := by rw [take_snoc _ L hlt, hn]
    have htl : (L.take k).length ≤ 431 := by rw [List.length_take]; omega
    cases k with
    | zero =>
      have d1 : decide (0 < ((0 : Nat) : Int)) = false := by decide
      have d2 : decide (0 < 0) = false := by decide
      (repeat' (first | simp (maxSteps := 5000000) (implicitDefEqProofs := false) only [ruA, ruB, aEv, aTake, aLoad, aField, aIndex, aBin, bin2, ASt.get, aget, ASt.put, aStore, aBox, aAppend, aBuildSlice, aCells, oneC, oneCL, treeC, treeL, aLit, aDst, aSrc, appTab, Value.cells, Value.oneCell', ↓reduceIte, reduceCtorEq, Nat.reduceLT, Nat.reduceEqDiff, Nat.reduceAdd, Nat.reduceMul, Nat.reduceSub, Nat.reduceLeDiff, eq_self, aBuildSlice1, frzs, ownIds, tyE_138, tyA_141, tyS_141, tyZ_141, tyF_36_0, tyA_33, tyS_33, tyF_141_1, tyA_63, tyS_63, tyR_33, row_at, hlt, hn, hpn, d1] | (with_reducible refine aIf_split (fun _ => ?_) (fun _ => ?_)) | (with_reducible refine aSel_split (fun _ => ?_) (fun _ => ?_)) | (with_reducible refine aGd_split (fun _ => ?_) (fun _ => ?_)) | (with_reducible refine aDraw_quiet (by kernel_rfl) ?_) | (with_reducible apply And.intro)))
      all_goals first
        | rfl
        | omega
        | exact roundI (weak_ren1 [0, 1, 2, 7, 4] ⟨(by decide), (by (first | ((simp only [envInR, tabInR, envLt, tabLt, AObj.lt, AV.lt, AV.ltL, AV.ren, AV.renL, AObj.ren, List.getD_cons_zero, List.getD_cons_succ, List.length_cons, List.length_nil, ruW, ASt.get, aget, ↓reduceIte, reduceCtorEq, Nat.reduceLT, Nat.reduceEqDiff, Nat.reduceAdd, eq_self, hsn]) <;> (repeat' apply And.intro) <;> first | (rw [wrapK (by omega)]; done) | (simp; done) | omega) | fail))⟩) ⟨0 + 1, by omega, rfl⟩ (by simp only [slotN, ruW, ASt.get, aget, ↓reduceIte, Nat.reduceLT, Nat.reduceEqDiff, Nat.reduceAdd, eq_self]; omega)
        | trace_state
    | succ k =>
      have d1 : decide (0 < ((k + 1 : Nat) : Int)) = true := by simp only [decide_eq_true_eq]; omega
      have d2 : decide (0 < k + 1) = true := by simp
      have hrn : (List.replicate (k + 1 + 1 - 1) (0 : Int)).map (fun n => [eI n]) = (List.replicate (k + 1 - 1) (0 : Int)).map (fun n => [eI n]) ++ [[eI 0]] := by
        rw [show k + 1 + 1 - 1 = (k + 1 - 1) + 1 by omega, List.replicate_succ', List.map_append]
        rfl

      (repeat' (first | simp (maxSteps := 5000000) (implicitDefEqProofs := false) only [ruA, ruB, aEv, aTake, aLoad, aField, aIndex, aBin, bin2, ASt.get, aget, ASt.put, aStore, aBox, aAppend, aBuildSlice, aCells, oneC, oneCL, treeC, treeL, aLit, aDst, aSrc, appTab, Value.cells, Value.oneCell', ↓reduceIte, reduceCtorEq, Nat.reduceLT, Nat.reduceEqDiff, Nat.reduceAdd, Nat.reduceMul, Nat.reduceLeDiff, eq_self, aBuildSlice1, frzs, ownIds, tyE_138, tyA_141, tyS_141, tyZ_141, tyF_36_1, tyA_34, tyS_34, tyR_34, tyF_36_0, tyA_33, tyS_33, tyF_141_1, tyA_63, tyS_63, tyR_33, row_at, hlt, hn, hpn, d1, List.length_replicate] | (with_reducible refine aIf_split (fun _ => ?_) (fun _ => ?_)) | (with_reducible refine aSel_split (fun _ => ?_) (fun _ => ?_)) | (with_reducible refine aGd_split (fun _ => ?_) (fun _ => ?_)) | (with_reducible refine aDraw_quiet (by kernel_rfl) ?_) | (with_reducible apply And.intro)))
      all_goals first
        | rfl
        | omega
        | exact roundI (weak_ren1 [0, 1, 2, 9, 7] ⟨(by decide), (by (first | ((simp only [envInR, tabInR, envLt, tabLt, AObj.lt, AV.lt, AV.ltL, AV.ren, AV.renL, AObj.ren, List.getD_cons_zero, List.getD_cons_succ, List.length_cons, List.length_nil, ruW, ASt.get, aget, ↓reduceIte, reduceCtorEq, Nat.reduceLT, Nat.reduceEqDiff, Nat.reduceAdd, eq_self, hsn, hrn]) <;> (repeat' apply And.intro) <;> first | (rw [wrapK (by omega)]; done) | (simp; done) | omega) | fail))⟩) ⟨k + 1 + 1, by omega, rfl⟩ (by simp only [slotN, ruW, ASt.get, aget, ↓reduceIte, Nat.reduceLT, Nat.reduceEqDiff, eq_self]; omega)
        | trace_state
  · obtain rfl : k = L.length := by omega
    rw [List.take_length]
    have hg0 : (List.replicate (L.length - 1) (0 : Int)) = gapsK L r 0 := (gapsK_0 L r).symm
    rw [hg0]
    (repeat' (first | simp (maxSteps := 5000000) (implicitDefEqProofs := false) only [ruA, ruB, aEv, aBin, bin2, ASt.get, aget, ASt.put, ↓reduceIte, reduceCtorEq, Nat.reduceLT, Nat.reduceEqDiff, eq_self, hlt] | (with_reducible refine aIf_split (fun _ => ?_) (fun _ => ?_)) | (with_reducible refine aSel_split (fun _ => ?_) (fun _ => ?_)) | (with_reducible refine aGd_split (fun _ => ?_) (fun _ => ?_))))
    refine callO hP (.inr hpp) ?_
    (repeat' (first | simp (maxSteps := 5000000) (implicitDefEqProofs := false) only [ruA, ruB, aEv, aTake, aLoad, aField, aLen, ASt.get, aget, ASt.put, ↓reduceIte, reduceCtorEq, Nat.reduceLT, Nat.reduceEqDiff, Nat.reduceAdd, eq_self, ne_eq, tyF_36_1, tyA_34, tyS_34, tyE_34, gapsK_len] | (with_reducible refine aIf_split (fun _ => ?_) (fun _ => ?_)) | (with_reducible refine aSel_split (fun _ => ?_) (fun _ => ?_)) | (with_reducible refine aGd_split (fun _ => ?_) (fun _ => ?_))))
    refine aLoop_of (fun st => ∃ k : Nat, k ≤ L.length - 1 ∧ st = ⟨65, [(2, eI r), (6, .op 0 0 0), (7, .op 1 0 0), (10, .osl 5), (41, eI ((L.length - 1 : Nat) : Int)), (42, eI (k : Int))], [(0, some (.box 36 [.c (.slice none 0 0), .c (.slice none 0 0)])), (1, some (.box 36 [.osl 3, .osl 4])), (5, some (.row 141 3 (L.map pf))), (3, some (.row 63 2 (L.map fun n => eCls (cf n)))), (4, some (.row 3 1 ((gapsK L r k).map fun n => [eI n])))], 6⟩) (fun st => L.length - 1 - slotN st 42) ⟨_, (weak_cut1 (by (first | ((simp only [envIn, tabIn, envLt, tabLt, AObj.lt, AV.lt, AV.ltL, ruW, ASt.get, aget, ↓reduceIte, reduceCtorEq, Nat.reduceLT, Nat.reduceEqDiff, eq_self]) <;> (repeat' apply And.intro) <;> first | (rw [wrapK (by omega)]; done) | (simp; done) | omega) | fail))), 0, Nat.zero_le _, rfl⟩ ?_
    rintro _ ⟨k, hk, rfl⟩
    by_cases hlt2 : k < L.length - 1
    · have hk1 : k < L.length := by omega
      have hk2 : k + 1 < L.length := by omega
      have hC := halveCap_A r
      have hCr := capV_le r
      have hC0 := capV_0 r
      have hG := numGap_A L[k] L[k + 1] (capV r) (hLok _ (List.getElem_mem hk1)) (hLok _ (List.getElem_mem hk2)) ⟨by omega, by omega⟩
      have hset := gapsK_set L r hlt2
      have e1 : IntKind.i64.wrap ((k : Int) + 1) = ((k + 1 : Nat) : Int) := wrapK (by omega)
      rw [show L.getD k 0 = L[k] by rw [List.getD_eq_getElem?_getD, List.getElem?_eq_getElem hk1]; rfl, show L.getD (k + 1) 0 = L[k + 1] by rw [List.getD_eq_getElem?_getD, List.getElem?_eq_getElem hk2]; rfl] at hset
      have hst : ((gapsK L r k).map fun n => [eI n]).set k [eI (gapV L[k] L[k + 1] (capV r))] = (gapsK L r (k + 1)).map fun n => [eI n] := by rw [← hset, List.map_set]
      have hpk := hpe L[k]
      have hpk2 := hpe L[k + 1]
      have hkg : k < (gapsK L r k).length := by rw [gapsK_len]; exact hlt2
      (repeat' (first | simp (maxSteps := 5000000) (implicitDefEqProofs := false) only [ruA, ruB, aEv, aBin, bin2, ASt.get, aget, ASt.put, ↓reduceIte, Nat.reduceLT, Nat.reduceEqDiff, eq_self, hlt2] | (with_reducible refine aIf_split (fun _ => ?_) (fun _ => ?_)) | (with_reducible refine aSel_split (fun _ => ?_) (fun _ => ?_)) | (with_reducible refine aGd_split (fun _ => ?_) (fun _ => ?_))))
      refine aDraw_held [4] [0, 1, 2, 3, 4, 5, 6, 7, 8, 9, 10, 11, 12, 13, 14] (.exec 15 (.exec 16 (.take 17 (.exec 18 .done)))) (by kernel_rfl) (by simp [ATab.get_cons]) ?_
      (repeat' (first | simp (maxSteps := 5000000) (implicitDefEqProofs := false) only [ruA, ruB, aEv, aTake, aLoad, aField, aIndex, aBin, bin2, ASt.get, aget, ASt.put, aCells, oneC, oneCL, treeC, treeL, Value.cells, Value.oneCell', ↓reduceIte, reduceCtorEq, Nat.reduceLT, Nat.reduceEqDiff, Nat.reduceAdd, Nat.reduceLeDiff, eq_self, aExecS, aStoreB, aTakes, aTakeE, aFrom, aMay, tyE_138, tyF_36_1, tyA_34, tyS_34, tyE_34, tyF_141_0, tyA_2, tyS_2, tyS_3, row_at, hk1, hk2, hlt2, e1, hpk, hpk2, gapsK_len] | (with_reducible refine aIf_split (fun _ => ?_) (fun _ => ?_)) | (with_reducible refine aSel_split (fun _ => ?_) (fun _ => ?_)) | (with_reducible refine aGd_split (fun _ => ?_) (fun _ => ?_)) | (with_reducible refine aDraw_quiet (by kernel_rfl) ?_) | ((with_reducible apply callV); exact (hC)) | ((with_reducible apply callD); exact (hC)) | ((with_reducible apply callV); exact (hG)) | ((with_reducible apply callD); exact (hG)) | (with_reducible apply And.intro)))
      all_goals first
        | rfl
        | omega
        | exact roundI (weak_cut1 (by (first | ((simp only [envIn, tabIn, envLt, tabLt, AObj.lt, AV.lt, AV.ltL, ruW, ASt.get, aget, ↓reduceIte, reduceCtorEq, Nat.reduceLT, Nat.reduceEqDiff, eq_self, hst]) <;> (repeat' apply And.intro) <;> first | (rw [wrapK (by omega)]; done) | (simp; done) | omega) | fail))) ⟨k + 1, by omega, rfl⟩ (by simp only [slotN, ruW, ASt.get, aget, ↓reduceIte, Nat.reduceLT, Nat.reduceEqDiff, eq_self]; omega)
        | trace_state
    · obtain rfl : k = L.length - 1 := by omega
      rw [gapsK_all]
      (repeat' (first | simp (maxSteps := 5000000) (implicitDefEqProofs := false) only [ruA, ruB, aEv, aTake, aLoad, aBin, bin2, ASt.get, aget, ASt.put, aStore, aCells, oneC, oneCL, aResL, aOne, ↓reduceIte, Nat.reduceLT, Nat.reduceEqDiff, Nat.reduceAdd, eq_self, tyA_36, tyS_36, hlt2] | (with_reducible refine aIf_split (fun _ => ?_) (fun _ => ?_)) | (with_reducible refine aSel_split (fun _ => ?_) (fun _ => ?_)) | (with_reducible refine aGd_split (fun _ => ?_) (fun _ => ?_)) | (with_reducible refine aDraw_quiet (by kernel_rfl) ?_)))
      all_goals exact ⟨[3, 4], by decide, rfl, by simp [aTabs, ATab.get_cons]⟩
end
section
open Go.RowKit
theorem clsTy : (Tryz.prog.fieldsOf 63).toList.map (fun f => (f.name, f.type, f.offset)) = [("Attrs", 3, 0), ("Const", 3, 1)] := by kernel_rfl
theorem clsBin (op : BinOp) (hop : op = .eql ∨ op = .neq) (a b : Cls) : BinRun Tryz.prog op 63 (.agg #[.int .i64 a.attrs, .int .i64 a.const]) (.agg #[.int .i64 b.attrs, .int .i64 b.const]) (.bool (if op matches .eql then (a.attrs == b.attrs && a.const == b.const) else !(a.attrs == b.attrs && a.const == b.const))) := by
  have ht := clsTy
  obtain ⟨f, g, hfs⟩ : ∃ f g, (Tryz.prog.fieldsOf 63).toList = [f, g] := by
    generalize (Tryz.prog.fieldsOf 63).toList = l at ht ⊢
    cases l with
    | nil => simp at ht
    | cons f l => cases l with
      | nil => simp at ht
      | cons g l => cases l with
        | nil => exact ⟨f, g, rfl⟩
        | cons h l => simp at ht
  rw [hfs] at ht
  simp only [List.map_cons, List.map_nil, List.cons.injEq, Prod.mk.injEq, and_true] at ht
  obtain ⟨⟨h1, h2, h3⟩, h4, h5, h6⟩ := ht
  refine structRun [(.int .i64 a.attrs, .int .i64 b.attrs), (.int .i64 a.const, .int .i64 b.const)] (by kernel_rfl) (by kernel_rfl) (by kernel_rfl) (by rw [hfs]; rfl) (fun k f' p hk hp => ?_) (by simp [cellsEq, cellEq]) hop
  rw [hfs] at hk
  match k, hk, hp with
  | 0, hk, hp =>
    cases hk
    cases hp
    refine ⟨by rw [h1]; decide, ?_, by rw [h3]; rfl, by rw [h3]; rfl⟩
    rw [h2]
    kernel_rfl
  | 1, hk, hp =>
    cases hk
    cases hp
    refine ⟨by rw [h4]; decide, ?_, by rw [h6]; rfl, by rw [h6]; rfl⟩
    rw [h5]
    kernel_rfl
  | k + 2, hk, hp => simp at hk
instance : DecidableEq Cls := fun a b => decidable_of_iff (a.attrs = b.attrs ∧ a.const = b.const) (by cases a; cases b; simp)
theorem clsNe (x y : Cls) : BinRun Tryz.prog .neq 63 (.agg #[.int .i64 x.attrs, .int .i64 x.const]) (.agg #[.int .i64 y.attrs, .int .i64 y.const]) (.bool (decide (x ≠ y))) := by
  have h := clsBin .neq (.inr rfl) x y
  have e : decide (x ≠ y) = !(x.attrs == y.attrs && x.const == y.const) := by
    rw [Bool.eq_iff_iff]
    cases x
    cases y
    simp
  rw [e]
  exact h
theorem zn_ext {a b : Zn} (h1 : a.cls = b.cls) (h2 : a.gaps = b.gaps) : a = b := by
  cases a
  cases b
  simp at h1 h2
  rw [h1, h2]
theorem list_same {α : Type} {a b : List α} (hl : a.length = b.length) (h : ∀ i (h1 : i < a.length) (h2 : i < b.length), a[i] = b[i]) : a = b := List.ext_getElem hl h
set_option maxRecDepth 100000 in
set_option maxHeartbeats 8000000 in
theorem sameZ_A (a b : Zn) (h1 : a.cls.length ≤ 1000000) (h2 : a.gaps.length ≤ 1000000) : ARel Tryz.prog 31 [.agg (eZn a), .agg (eZn b)] fun R => ∃ t, R = val (.bool t) ∧ (t = true ↔ a = b) := by
  refine arel_of_code mixedT Tryz.func31 rfl (by decide) Tryz.ntmps31 Tryz.results31 rfl ?_
  have no1 : a.cls.length ≠ b.cls.length → ¬ a = b := fun h e => h (by rw [e])
  have no2 : a.gaps.length ≠ b.gaps.length → ¬ a = b := fun h e => h (by rw [e])
  by_cases hl1 : a.cls.length = b.cls.length
  · have d1 : ((a.cls.length : Int) != (b.cls.length : Int)) = false := by simp [hl1]
    by_cases hl2 : a.gaps.length = b.gaps.length
    · have d2 : ((a.gaps.length : Int) != (b.gaps.length : Int)) = false := by simp [hl2]
      (repeat' (first | simp (maxSteps := 5000000) (implicitDefEqProofs := false) only [ruA, ruB, aEv, aTake, aLoad, aField, aLen, aBin, bin2, ASt.get, aget, ASt.put, aBox, aCells, oneC, oneCL, envOf, ↓reduceIte, reduceCtorEq, Nat.reduceLT, Nat.reduceEqDiff, Nat.reduceAdd, Nat.reduceLeDiff, eq_self, ne_eq, tyF_36_0, tyA_33, tyS_33, tyE_33, tyF_36_1, tyA_34, tyS_34, tyE_34, d1, d2] | (with_reducible refine aIf_split (fun _ => ?_) (fun _ => ?_)) | (with_reducible refine aSel_split (fun _ => ?_) (fun _ => ?_)) | (with_reducible refine aGd_split (fun _ => ?_) (fun _ => ?_)) | (with_reducible refine aDraw_quiet (by kernel_rfl) ?_)))
      refine aLoop_of (fun st => ∃ k : Nat, k ≤ a.cls.length ∧ (∀ i (h1 : i < a.cls.length) (h2 : i < b.cls.length), i < k → a.cls[i] = b.cls[i]) ∧ st = ⟨59, [(2, .op 0 0 0), (3, .op 1 0 0), (5, eI (k : Int))], [(0, some (.box 36 (eZn a))), (1, some (.box 36 (eZn b)))], 2⟩) (fun st => a.cls.length - slotN st 5) ⟨_, (weak_cut1 (by (first | ((simp only [envIn, tabIn, envLt, tabLt, AObj.lt, AV.lt, AV.ltL, ruW, ASt.get, aget, ↓reduceIte, reduceCtorEq, Nat.reduceLT, Nat.reduceEqDiff, eq_self]) <;> (repeat' apply And.intro) <;> first | (rw [wrapK (by omega)]; done) | (simp; done) | omega) | fail))), 0, Nat.zero_le _, fun i _ _ h => by omega, rfl⟩ ?_
      rintro _ ⟨k, hk, hs, rfl⟩
      by_cases hlt : k < a.cls.length
      · have hlt2 : k < b.cls.length := by omega
        have hB := clsNe a.cls[k] b.cls[k]
        by_cases hxy : a.cls[k] = b.cls[k]
        · rw [decide_eq_false (by simpa using hxy)] at hB
          obtain ⟨x, hx⟩ : ∃ x, a.cls[k] = x := ⟨_, rfl⟩
          obtain ⟨y, hy⟩ : ∃ y, b.cls[k] = y := ⟨_, rfl⟩
          rw [hx, hy] at hB
          (repeat' (first | simp (maxSteps := 5000000) (implicitDefEqProofs := false) only [ruA, ruB, aEv, aTake, aLoad, aField, aIndex, aLen, aBin, bin2, ASt.get, aget, ASt.put, allC, aBinS, ↓reduceIte, reduceCtorEq, Nat.reduceLT, Nat.reduceEqDiff, Nat.reduceAdd, Nat.reduceLeDiff, eq_self, ne_eq, tyF_36_0, tyA_33, tyS_33, tyE_33, tyA_63, tyS_63, row_at, hlt, hlt2, hx, hy] | (with_reducible refine aIf_split (fun _ => ?_) (fun _ => ?_)) | (with_reducible refine aSel_split (fun _ => ?_) (fun _ => ?_)) | (with_reducible refine aGd_split (fun _ => ?_) (fun _ => ?_)) | (with_reducible refine aDraw_quiet (by kernel_rfl) ?_)))
          all_goals refine ⟨_, hB, ?_⟩
          all_goals (repeat' (first | simp (maxSteps := 5000000) (implicitDefEqProofs := false) only [ruA, aEv, aBin, bin2, ASt.get, aget, ASt.put, ↓reduceIte, Nat.reduceLT, Nat.reduceEqDiff, eq_self] | (with_reducible refine aIf_split (fun _ => ?_) (fun _ => ?_)) | (with_reducible refine aSel_split (fun _ => ?_) (fun _ => ?_)) | (with_reducible refine aGd_split (fun _ => ?_) (fun _ => ?_)) | (with_reducible refine aDraw_quiet (by kernel_rfl) ?_)))
          all_goals exact roundI (weak_cut1 (by (first | ((simp only [envIn, tabIn, envLt, tabLt, AObj.lt, AV.lt, AV.ltL, ruW, ASt.get, aget, ↓reduceIte, Nat.reduceLT, Nat.reduceEqDiff, eq_self]) <;> (repeat' apply And.intro) <;> first | (rw [wrapK (by omega)]; done) | (simp; done) | omega) | fail))) ⟨k + 1, by omega, fun i h1 h2 h3 => (by
            rcases Nat.lt_or_ge i k with h | h
            · exact hs i h1 h2 h
            · obtain rfl : i = k := by omega
              exact hxy), rfl⟩ (by simp only [slotN, ASt.get, aget, ↓reduceIte, Nat.reduceLT, Nat.reduceEqDiff, eq_self]; omega)
        · rw [decide_eq_true hxy] at hB
          have hno : ¬ a = b := fun e => hxy (by subst e; rfl)
          obtain ⟨x, hx⟩ : ∃ x, a.cls[k] = x := ⟨_, rfl⟩
          obtain ⟨y, hy⟩ : ∃ y, b.cls[k] = y := ⟨_, rfl⟩
          rw [hx, hy] at hB
          (repeat' (first | simp (maxSteps := 5000000) (implicitDefEqProofs := false) only [ruA, ruB, aEv, aTake, aLoad, aField, aIndex, aLen, aBin, bin2, ASt.get, aget, ASt.put, allC, aBinS, ↓reduceIte, reduceCtorEq, Nat.reduceLT, Nat.reduceEqDiff, Nat.reduceAdd, Nat.reduceLeDiff, eq_self, ne_eq, tyF_36_0, tyA_33, tyS_33, tyE_33, tyA_63, tyS_63, row_at, hlt, hlt2, hx, hy] | (with_reducible refine aIf_split (fun _ => ?_) (fun _ => ?_)) | (with_reducible refine aSel_split (fun _ => ?_) (fun _ => ?_)) | (with_reducible refine aGd_split (fun _ => ?_) (fun _ => ?_)) | (with_reducible refine aDraw_quiet (by kernel_rfl) ?_)))
          all_goals refine ⟨_, hB, ?_⟩
          all_goals (repeat' (first | simp (maxSteps := 5000000) (implicitDefEqProofs := false) only [ruA, aEv, ASt.get, aget, ASt.put, aResL, aOne, ↓reduceIte, Nat.reduceLT, eq_self] | (with_reducible refine aIf_split (fun _ => ?_) (fun _ => ?_)) | (with_reducible refine aSel_split (fun _ => ?_) (fun _ => ?_)) | (with_reducible refine aGd_split (fun _ => ?_) (fun _ => ?_)) | (with_reducible refine aDraw_quiet (by kernel_rfl) ?_)))
          all_goals exact retV ⟨false, rfl, by simp; exact hno⟩
      · have hcls : a.cls = b.cls := list_same hl1 fun i h1 h2 => hs i h1 h2 (by omega)
        (repeat' (first | simp (maxSteps := 5000000) (implicitDefEqProofs := false) only [ruA, ruB, aEv, aTake, aLoad, aField, aLen, aBin, bin2, ASt.get, aget, ASt.put, ↓reduceIte, reduceCtorEq, Nat.reduceLT, Nat.reduceEqDiff, Nat.reduceAdd, Nat.reduceLeDiff, eq_self, ne_eq, tyF_36_0, tyA_33, tyS_33, tyE_33, hlt] | (with_reducible refine aIf_split (fun _ => ?_) (fun _ => ?_)) | (with_reducible refine aSel_split (fun _ => ?_) (fun _ => ?_)) | (with_reducible refine aGd_split (fun _ => ?_) (fun _ => ?_)) | (with_reducible refine aDraw_quiet (by kernel_rfl) ?_)))
        refine aLoop_of (fun st => ∃ k : Nat, k ≤ a.gaps.length ∧ (∀ i (h1 : i < a.gaps.length) (h2 : i < b.gaps.length), i < k → a.gaps[i] = b.gaps[i]) ∧ st = ⟨59, [(2, .op 0 0 0), (3, .op 1 0 0), (6, eI (k : Int))], [(0, some (.box 36 (eZn a))), (1, some (.box 36 (eZn b)))], 2⟩) (fun st => a.gaps.length - slotN st 6) ⟨_, (weak_cut1 (by (first | ((simp only [envIn, tabIn, envLt, tabLt, AObj.lt, AV.lt, AV.ltL, ruW, ASt.get, aget, ↓reduceIte, Nat.reduceLT, Nat.reduceEqDiff, eq_self]) <;> (repeat' apply And.intro) <;> first | (rw [wrapK (by omega)]; done) | (simp; done) | omega) | fail))), 0, Nat.zero_le _, fun i _ _ h => by omega, rfl⟩ ?_
        rintro _ ⟨k, hk, hs2, rfl⟩
        by_cases hlt2 : k < a.gaps.length
        · have hlt3 : k < b.gaps.length := by omega
          by_cases hxy : a.gaps[k] = b.gaps[k]
          · have d3 : (a.gaps[k] != b.gaps[k]) = false := by simpa using hxy
            (repeat' (first | simp (maxSteps := 5000000) (implicitDefEqProofs := false) only [ruA, ruB, aEv, aTake, aLoad, aField, aIndex, aLen, aBin, bin2, ASt.get, aget, ASt.put, ↓reduceIte, reduceCtorEq, Nat.reduceLT, Nat.reduceEqDiff, eq_self, ne_eq, tyF_36_1, tyA_34, tyS_34, tyE_34, tyA_3, tyS_3, row_at, hlt2, hlt3, d3] | (with_reducible refine aIf_split (fun _ => ?_) (fun _ => ?_)) | (with_reducible refine aSel_split (fun _ => ?_) (fun _ => ?_)) | (with_reducible refine aGd_split (fun _ => ?_) (fun _ => ?_)) | (with_reducible refine aDraw_quiet (by kernel_rfl) ?_)))
            all_goals exact roundI (weak_cut1 (by (first | ((simp only [envIn, tabIn, envLt, tabLt, AObj.lt, AV.lt, AV.ltL, ruW, ASt.get, aget, ↓reduceIte, Nat.reduceLT, Nat.reduceEqDiff, eq_self]) <;> (repeat' apply And.intro) <;> first | (rw [wrapK (by omega)]; done) | (simp; done) | omega) | fail))) ⟨k + 1, by omega, fun i h1 h2 h3 => (by
              rcases Nat.lt_or_ge i k with h | h
              · exact hs2 i h1 h2 h
              · obtain rfl : i = k := by omega
                exact hxy), rfl⟩ (by simp only [slotN, ASt.get, aget, ↓reduceIte, Nat.reduceLT, Nat.reduceEqDiff, eq_self]; omega)
          · have d3 : (a.gaps[k] != b.gaps[k]) = true := by simpa using hxy
            have hno : ¬ a = b := fun e => hxy (by subst e; rfl)
            (repeat' (first | simp (maxSteps := 5000000) (implicitDefEqProofs := false) only [ruA, ruB, aEv, aTake, aLoad, aField, aIndex, aLen, aBin, bin2, ASt.get, aget, ASt.put, aResL, aOne, ↓reduceIte, reduceCtorEq, Nat.reduceLT, Nat.reduceEqDiff, eq_self, ne_eq, tyF_36_1, tyA_34, tyS_34, tyE_34, tyA_3, tyS_3, row_at, hlt2, hlt3, d3] | (with_reducible refine aIf_split (fun _ => ?_) (fun _ => ?_)) | (with_reducible refine aSel_split (fun _ => ?_) (fun _ => ?_)) | (with_reducible refine aGd_split (fun _ => ?_) (fun _ => ?_)) | (with_reducible refine aDraw_quiet (by kernel_rfl) ?_)))
            all_goals exact retV ⟨false, rfl, by simp; exact hno⟩
        · have hgaps : a.gaps = b.gaps := list_same hl2 fun i h1 h2 => hs2 i h1 h2 (by omega)
          (repeat' (first | simp (maxSteps := 5000000) (implicitDefEqProofs := false) only [ruA, ruB, aEv, aTake, aLoad, aField, aLen, aBin, bin2, ASt.get, aget, ASt.put, aResL, aOne, ↓reduceIte, reduceCtorEq, Nat.reduceLT, Nat.reduceEqDiff, eq_self, ne_eq, tyF_36_1, tyA_34, tyS_34, tyE_34, hlt2] | (with_reducible refine aIf_split (fun _ => ?_) (fun _ => ?_)) | (with_reducible refine aSel_split (fun _ => ?_) (fun _ => ?_)) | (with_reducible refine aGd_split (fun _ => ?_) (fun _ => ?_)) | (with_reducible refine aDraw_quiet (by kernel_rfl) ?_)))
          all_goals exact retV ⟨true, rfl, by simp; exact zn_ext hcls hgaps⟩
    · have d2 : ((a.gaps.length : Int) != (b.gaps.length : Int)) = true := by simp; omega
      (repeat' (first | simp (maxSteps := 5000000) (implicitDefEqProofs := false) only [ruA, ruB, aEv, aTake, aLoad, aField, aLen, aBin, bin2, ASt.get, aget, ASt.put, aBox, aCells, oneC, oneCL, envOf, aResL, aOne, ↓reduceIte, reduceCtorEq, Nat.reduceLT, Nat.reduceEqDiff, Nat.reduceAdd, Nat.reduceLeDiff, eq_self, ne_eq, tyF_36_0, tyA_33, tyS_33, tyE_33, tyF_36_1, tyA_34, tyS_34, tyE_34, d1, d2] | (with_reducible refine aIf_split (fun _ => ?_) (fun _ => ?_)) | (with_reducible refine aSel_split (fun _ => ?_) (fun _ => ?_)) | (with_reducible refine aGd_split (fun _ => ?_) (fun _ => ?_)) | (with_reducible refine aDraw_quiet (by kernel_rfl) ?_)))
      exact retV ⟨false, rfl, by simp; exact no2 hl2⟩
  · have d1 : ((a.cls.length : Int) != (b.cls.length : Int)) = true := by simp; omega
    (repeat' (first | simp (maxSteps := 5000000) (implicitDefEqProofs := false) only [ruA, ruB, aEv, aTake, aLoad, aField, aLen, aBin, bin2, ASt.get, aget, ASt.put, aBox, aCells, oneC, oneCL, envOf, aResL, aOne, ↓reduceIte, reduceCtorEq, Nat.reduceLT, Nat.reduceEqDiff, Nat.reduceAdd, Nat.reduceLeDiff, eq_self, ne_eq, tyF_36_0, tyA_33, tyS_33, tyE_33, d1] | (with_reducible refine aIf_split (fun _ => ?_) (fun _ => ?_)) | (with_reducible refine aSel_split (fun _ => ?_) (fun _ => ?_)) | (with_reducible refine aGd_split (fun _ => ?_) (fun _ => ?_)) | (with_reducible refine aDraw_quiet (by kernel_rfl) ?_)))
    exact retV ⟨false, rfl, by simp; exact no1 hl1⟩
set_option maxRecDepth 100000 in
theorem greatZ_A (z : Zn) : ARel Tryz.prog 14 [.agg (eZn z)] fun R => ∃ b, R = val (.bool b) ∧ (b = false → z.cls.length ≤ 40 ∧ z.gaps.length ≤ 40) := by
  refine arel_of_code mixedT Tryz.func14 rfl (by decide) Tryz.ntmps14 Tryz.results14 rfl ?_
  (repeat' (first | simp (maxSteps := 5000000) (implicitDefEqProofs := false) only [ruA, ruB, aEv, aTake, aLoad, aField, aLen, aBin, bin2, ASt.get, aget, ASt.put, aBox, aCells, oneC, oneCL, envOf, aResL, aOne, ↓reduceIte, reduceCtorEq, Nat.reduceLT, Nat.reduceEqDiff, Nat.reduceAdd, Nat.reduceLeDiff, eq_self, ne_eq, tyF_36_0, tyA_33, tyS_33, tyE_33, tyF_36_1, tyA_34, tyS_34, tyE_34] | (with_reducible refine aIf_split (fun _ => ?_) (fun _ => ?_)) | (with_reducible refine aSel_split (fun _ => ?_) (fun _ => ?_)) | (with_reducible refine aGd_split (fun _ => ?_) (fun _ => ?_)) | (with_reducible refine aDraw_quiet (by kernel_rfl) ?_)))
  all_goals (rename_i h; simp at h)
  · exact retV ⟨true, rfl, by simp⟩
  · refine retV ⟨_, rfl, fun hb => ?_⟩
    simp at hb
    omega
end
section
open Go.RowKit
def andI (a b : Int) : Int := bits .and .i64 a b
def atts (l : List Cls) : Int := l.foldl (fun a x => orI a x.attrs) 0
def nextN (l : List Cls) : Nat := l.countP fun x => !(x.const == -1)
theorem atts_snoc (l : List Cls) (x : Cls) : atts (l ++ [x]) = orI (atts l) x.attrs := by simp [atts]
theorem nextN_snoc (l : List Cls) (x : Cls) : nextN (l ++ [x]) = nextN l + (if x.const = -1 then 0 else 1) := by
  unfold nextN
  rw [List.countP_append]
  by_cases h : x.const = -1 <;> simp [h]
theorem nextN_le (l : List Cls) : nextN l ≤ l.length := List.countP_le_length
def ClsOk (l : List Cls) (x : Cls) : Prop := 0 ≤ x.attrs ∧ andI x.attrs (atts l) = 0 ∧ ¬ (x.attrs = 0 ∧ x.const = -1) ∧ (x.const = -1 ∨ x.const = (nextN l : Int))
def FormedP (l : List Cls) (n k : Int) : Prop := (∀ i (h : i < l.length), ClsOk (l.take i) l[i]) ∧ atts l = firstI n ∧ (nextN l : Int) = k
set_option maxRecDepth 100000 in
set_option maxHeartbeats 8000000 in
theorem formed_A (z : Zn) (n k : Int) (h1 : z.cls.length ≤ 1000000) : ARel Tryz.prog 74 [.agg (eZn z), eI n, eI k] fun R => ∃ b, R = val (.bool b) ∧ (b = true ↔ FormedP z.cls n k) := by
  refine arel_of_code mixedT Tryz.func74 rfl (by decide) Tryz.ntmps74 Tryz.results74 rfl ?_
  (repeat' (first | simp (maxSteps := 5000000) (implicitDefEqProofs := false) only [ruA, ruB, aEv, aTake, aLoad, aField, aLen, ASt.get, aget, ASt.put, aBox, aCells, oneC, oneCL, envOf, ↓reduceIte, reduceCtorEq, Nat.reduceLT, Nat.reduceEqDiff, Nat.reduceAdd, Nat.reduceLeDiff, eq_self, ne_eq, tyF_36_0, tyA_33, tyS_33, tyE_33] | (with_reducible refine aIf_split (fun _ => ?_) (fun _ => ?_)) | (with_reducible refine aSel_split (fun _ => ?_) (fun _ => ?_)) | (with_reducible refine aGd_split (fun _ => ?_) (fun _ => ?_))))
  refine aLoop_of (fun st => ∃ (i : Nat) (a x : Int), i ≤ z.cls.length ∧ a = atts (z.cls.take i) ∧ x = (nextN (z.cls.take i) : Int) ∧ (∀ j (h : j < z.cls.length), j < i → ClsOk (z.cls.take j) z.cls[j]) ∧ st = ⟨61, [(1, eI n), (2, eI k), (7, eI a), (8, eI x), (12, .sl 2 (z.cls.map eCls)), (13, eI (z.cls.length : Int)), (14, eI (i : Int))], [], 0⟩) (fun st => z.cls.length - slotN st 14) ⟨_, (weak_cut1 (by (first | ((simp only [envIn, tabIn, envLt, tabLt, AV.lt, ruW, ASt.get, aget, ↓reduceIte, Nat.reduceLT, Nat.reduceEqDiff, eq_self]) <;> (repeat' apply And.intro) <;> first | (rw [wrapK (by omega)]; done) | (simp; done) | omega) | fail))), 0, 0, 0, Nat.zero_le _, rfl, rfl, fun j _ h => by omega, rfl⟩ ?_
  rintro _ ⟨i, a, x, hi, ha, hx, hok, rfl⟩
  by_cases hlt : i < z.cls.length
  · have htk : z.cls.take (i + 1) = z.cls.take i ++ [z.cls[i]] := List.take_succ_eq_append_getElem hlt
    have hno : ¬ ClsOk (z.cls.take i) z.cls[i] → ¬ FormedP z.cls n k := fun h h2 => h (h2.1 i hlt)
    have hnl : nextN (z.cls.take i) ≤ 1000000 := by have := nextN_le (z.cls.take i); rw [List.length_take] at this; omega
    have hok2 : ClsOk (z.cls.take i) z.cls[i] → ∀ j (h : j < z.cls.length), j < i + 1 → ClsOk (z.cls.take j) z.cls[j] := fun h j hj hji => by
      rcases Nat.lt_or_ge j i with h2 | h2
      · exact hok j hj h2
      · obtain rfl : j = i := by omega
        exact h
    have hat : atts (z.cls.take (i + 1)) = orI a z.cls[i].attrs := by rw [htk, atts_snoc, ha]
    have hnx : (nextN (z.cls.take (i + 1)) : Int) = x + (if z.cls[i].const = -1 then 0 else 1) := by rw [htk, nextN_snoc, hx]; split <;> simp
    unfold ClsOk at hno hok2
    rw [← ha, ← hx] at hno hok2
    clear hok htk
    generalize hc : z.cls[i] = c at *
    have c1 : ∀ b, decide (c.attrs < 0) = b → True := fun _ _ => trivial
    by_cases g1 : c.attrs < 0
    · have d1 : decide (c.attrs < 0) = true := by simpa using g1
      (repeat' (first | simp (maxSteps := 5000000) (implicitDefEqProofs := false) only [ruA, ruB, aEv, aTake, aLoad, aField, aIndex, aBin, bin2, ASt.get, aget, ASt.put, aStore, aBox, aCells, oneC, oneCL, Value.cells, Value.oneCell', aResL, aOne, ↓reduceIte, reduceCtorEq, Nat.reduceLT, Nat.reduceEqDiff, Nat.reduceAdd, Nat.reduceLeDiff, eq_self, tyE_33, tyA_63, tyS_63, tyZ_63, tyF_63_0, tyA_3, tyS_3, row_at, hlt, hc, d1] | (with_reducible refine aIf_split (fun _ => ?_) (fun _ => ?_)) | (with_reducible refine aSel_split (fun _ => ?_) (fun _ => ?_)) | (with_reducible refine aGd_split (fun _ => ?_) (fun _ => ?_)) | (with_reducible refine aDraw_quiet (by kernel_rfl) ?_)))
      all_goals exact retV ⟨false, rfl, by simp; exact hno (by omega)⟩
    have d1 : decide (c.attrs < 0) = false := by simpa using g1
    by_cases g2 : andI c.attrs a = 0
    · have d2 : (bits .and .i64 c.attrs a != 0) = false := by simpa [andI] using g2
      by_cases g3 : c.attrs = 0 ∧ c.const = -1
      · have d3 : (c.attrs == 0) = true := by simpa using g3.1
        have d4 : (c.const == -1) = true := by simpa using g3.2
        (repeat' (first | simp (maxSteps := 5000000) (implicitDefEqProofs := false) only [ruA, ruB, aEv, aTake, aLoad, aField, aIndex, aBin, bin2, ASt.get, aget, ASt.put, aStore, aBox, aCells, oneC, oneCL, Value.cells, Value.oneCell', aResL, aOne, ↓reduceIte, reduceCtorEq, Nat.reduceLT, Nat.reduceEqDiff, Nat.reduceAdd, Nat.reduceLeDiff, eq_self, tyE_33, tyA_63, tyS_63, tyZ_63, tyF_63_0, tyA_3, tyS_3, tyF_63_1, row_at, hlt, hc, d1, d2, d3, d4] | (with_reducible refine aIf_split (fun _ => ?_) (fun _ => ?_)) | (with_reducible refine aSel_split (fun _ => ?_) (fun _ => ?_)) | (with_reducible refine aGd_split (fun _ => ?_) (fun _ => ?_)) | (with_reducible refine aDraw_quiet (by kernel_rfl) ?_)))
        all_goals exact retV ⟨false, rfl, by simp; exact hno (fun h => h.2.2.1 g3)⟩
      · have e0 : IntKind.i64.wrap ((i : Int) + 1) = ((i + 1 : Nat) : Int) := wrapK (by omega)
        by_cases g4 : c.const = -1
        · have d4 : (c.const == -1) = true := by simpa using g4
          have d3 : (c.attrs == 0) = false := by simp; exact fun h => g3 ⟨h, g4⟩
          rw [if_pos g4, Int.add_zero] at hnx
          (repeat' (first | simp (maxSteps := 5000000) (implicitDefEqProofs := false) only [ruA, ruB, aEv, aTake, aLoad, aField, aIndex, aBin, bin2, ASt.get, aget, ASt.put, aStore, aBox, aCells, oneC, oneCL, Value.cells, Value.oneCell', ↓reduceIte, reduceCtorEq, Nat.reduceLT, Nat.reduceEqDiff, Nat.reduceAdd, Nat.reduceLeDiff, eq_self, tyE_33, tyA_63, tyS_63, tyZ_63, tyF_63_0, tyA_3, tyS_3, tyF_63_1, row_at, hlt, hc, d1, d2, d3, d4] | (with_reducible refine aIf_split (fun _ => ?_) (fun _ => ?_)) | (with_reducible refine aSel_split (fun _ => ?_) (fun _ => ?_)) | (with_reducible refine aGd_split (fun _ => ?_) (fun _ => ?_)) | (with_reducible refine aDraw_quiet (by kernel_rfl) ?_)))
          all_goals exact roundI (weak_cut1 (by (first | ((simp only [envIn, tabIn, envLt, tabLt, AV.lt, ruW, ASt.get, aget, ↓reduceIte, Nat.reduceLT, Nat.reduceEqDiff, eq_self, e0, orI]) <;> (repeat' apply And.intro) <;> first | (rw [wrapK (by omega)]; done) | (simp; done) | omega) | fail))) ⟨i + 1, orI a c.attrs, x, by omega, hat.symm, hnx.symm, hok2 ⟨by omega, g2, g3, .inl g4⟩, rfl⟩ (by simp only [slotN, ruW, ASt.get, aget, ↓reduceIte, Nat.reduceLT, Nat.reduceEqDiff, eq_self]; omega)
        · have d4 : (c.const == -1) = false := by simpa using g4
          rw [if_neg g4] at hnx
          by_cases g5 : c.const = x
          · have d5 : (c.const != x) = false := by simpa using g5
            have ex : IntKind.i64.wrap (x + 1) = x + 1 := wrap_in (by omega) (by omega)
            (repeat' (first | simp (maxSteps := 5000000) (implicitDefEqProofs := false) only [ruA, ruB, aEv, aTake, aLoad, aField, aIndex, aBin, bin2, ASt.get, aget, ASt.put, aStore, aBox, aCells, oneC, oneCL, Value.cells, Value.oneCell', ↓reduceIte, reduceCtorEq, Nat.reduceLT, Nat.reduceEqDiff, Nat.reduceAdd, Nat.reduceLeDiff, eq_self, tyE_33, tyA_63, tyS_63, tyZ_63, tyF_63_0, tyA_3, tyS_3, tyF_63_1, row_at, hlt, hc, d1, d2, d4, d5, ex] | (with_reducible refine aIf_split (fun _ => ?_) (fun _ => ?_)) | (with_reducible refine aSel_split (fun _ => ?_) (fun _ => ?_)) | (with_reducible refine aGd_split (fun _ => ?_) (fun _ => ?_)) | (with_reducible refine aDraw_quiet (by kernel_rfl) ?_)))
            all_goals exact roundI (weak_cut1 (by (first | ((simp only [envIn, tabIn, envLt, tabLt, AV.lt, ruW, ASt.get, aget, ↓reduceIte, Nat.reduceLT, Nat.reduceEqDiff, eq_self, e0, orI]) <;> (repeat' apply And.intro) <;> first | (rw [wrapK (by omega)]; done) | (simp; done) | omega) | fail))) ⟨i + 1, orI a c.attrs, x + 1, by omega, hat.symm, hnx.symm, hok2 ⟨by omega, g2, g3, .inr g5⟩, rfl⟩ (by simp only [slotN, ruW, ASt.get, aget, ↓reduceIte, Nat.reduceLT, Nat.reduceEqDiff, eq_self]; omega)
          · have d5 : (c.const != x) = true := by simpa using g5
            (repeat' (first | simp (maxSteps := 5000000) (implicitDefEqProofs := false) only [ruA, ruB, aEv, aTake, aLoad, aField, aIndex, aBin, bin2, ASt.get, aget, ASt.put, aStore, aBox, aCells, oneC, oneCL, Value.cells, Value.oneCell', aResL, aOne, ↓reduceIte, reduceCtorEq, Nat.reduceLT, Nat.reduceEqDiff, Nat.reduceAdd, Nat.reduceLeDiff, eq_self, tyE_33, tyA_63, tyS_63, tyZ_63, tyF_63_0, tyA_3, tyS_3, tyF_63_1, row_at, hlt, hc, d1, d2, d4, d5] | (with_reducible refine aIf_split (fun _ => ?_) (fun _ => ?_)) | (with_reducible refine aSel_split (fun _ => ?_) (fun _ => ?_)) | (with_reducible refine aGd_split (fun _ => ?_) (fun _ => ?_)) | (with_reducible refine aDraw_quiet (by kernel_rfl) ?_)))
            all_goals exact retV ⟨false, rfl, by simp; exact hno (fun h => by rcases h.2.2.2 with h | h <;> contradiction)⟩
    · have d2 : (bits .and .i64 c.attrs a != 0) = true := by simpa [andI] using g2
      (repeat' (first | simp (maxSteps := 5000000) (implicitDefEqProofs := false) only [ruA, ruB, aEv, aTake, aLoad, aField, aIndex, aBin, bin2, ASt.get, aget, ASt.put, aStore, aBox, aCells, oneC, oneCL, Value.cells, Value.oneCell', aResL, aOne, ↓reduceIte, reduceCtorEq, Nat.reduceLT, Nat.reduceEqDiff, Nat.reduceAdd, Nat.reduceLeDiff, eq_self, tyE_33, tyA_63, tyS_63, tyZ_63, tyF_63_0, tyA_3, tyS_3, row_at, hlt, hc, d1, d2] | (with_reducible refine aIf_split (fun _ => ?_) (fun _ => ?_)) | (with_reducible refine aSel_split (fun _ => ?_) (fun _ => ?_)) | (with_reducible refine aGd_split (fun _ => ?_) (fun _ => ?_)) | (with_reducible refine aDraw_quiet (by kernel_rfl) ?_)))
      all_goals exact retV ⟨false, rfl, by simp; exact hno (fun h => g2 h.2.1)⟩
  · obtain rfl : i = z.cls.length := by omega
    rw [List.take_length] at ha hx
    have hF := first_A n
    (repeat' (first | simp (maxSteps := 5000000) (implicitDefEqProofs := false) only [ruA, ruB, aEv, aBin, bin2, ASt.get, aget, ASt.put, aResL, aOne, ↓reduceIte, Nat.reduceLT, Nat.reduceEqDiff, eq_self, hlt] | (with_reducible refine aIf_split (fun _ => ?_) (fun _ => ?_)) | (with_reducible refine aSel_split (fun _ => ?_) (fun _ => ?_)) | (with_reducible refine aGd_split (fun _ => ?_) (fun _ => ?_)) | (with_reducible refine aDraw_quiet (by kernel_rfl) ?_) | ((with_reducible apply callV); exact (hF)) | ((with_reducible apply callD); exact (hF))))
    all_goals refine retV ⟨_, rfl, ?_⟩
    all_goals unfold FormedP
    all_goals rw [← ha, ← hx]
    all_goals constructor
    all_goals simp_all
end
section
open Go.RowKit
theorem and_nn (a b : Nat) (ha : a < 2 ^ 62) (hb : b < 2 ^ 62) : bits .and .i64 (a : Int) (b : Int) = ((a &&& b : Nat) : Int) := by
  show IntKind.i64.wrap ((BitVec.ofInt 64 (a : Int) &&& BitVec.ofInt 64 (b : Int)).toNat : Int) = _
  rw [BitVec.toNat_and, ofInt_nat64 a (by omega), ofInt_nat64 b (by omega)]
  exact wrap_nat _ (Nat.lt_of_le_of_lt Nat.and_le_left (by omega))
theorem attrs_bit (vals : List Int) (m : Int) (hv : vals.length ≤ 31) {a : Nat} (ha : attrsN vals m vals.length = (a : Int)) (hlt : a < 2 ^ 31) (q : Nat) : a.testBit q = true ↔ ∃ h : q < vals.length, vals[q] = m := by
  by_cases hq : q < 31
  · have h1 := attrs_has vals m vals.length hv (q : Int)
    rw [ha, hasB_low _ _ hq, low_of a hlt] at h1
    rw [h1]
    constructor
    · rintro ⟨q', e, h2, h3⟩
      obtain rfl : q = q' := by omega
      rw [List.getD_eq_getElem?_getD, List.getElem?_eq_getElem h2] at h3
      exact ⟨h2, h3⟩
    · rintro ⟨h2, h3⟩
      exact ⟨q, rfl, h2, by rw [List.getD_eq_getElem?_getD, List.getElem?_eq_getElem h2]; exact h3⟩
  · have : a.testBit q = false := Nat.testBit_lt_two_pow (Nat.lt_of_lt_of_le hlt (Nat.pow_le_pow_right (by decide) (by omega)))
    rw [this]
    constructor
    · intro h
      cases h
    · rintro ⟨h, _⟩
      omega
theorem atts_bits (vals c : List Int) (hv : vals.length ≤ 31) : ∀ L : List Int, ∃ A : Nat, atts (L.map (clsOf vals c)) = (A : Int) ∧ A < 2 ^ 31 ∧ ∀ q, A.testBit q = true ↔ ∃ h : q < vals.length, vals[q] ∈ L := fun L => by
  induction hk : L.length using Nat.strongRecOn generalizing L with
  | _ k ih =>
    rcases List.eq_nil_or_concat L with rfl | ⟨l, m, rfl⟩
    · exact ⟨0, rfl, by decide, fun q => by simp⟩
    · obtain ⟨A, h1, h2, h3⟩ := ih l.length (by simp at hk; omega) l rfl
      obtain ⟨a, ha, hlt⟩ := attrs_nat vals m vals.length hv
      have hb := attrs_bit vals m hv ha hlt
      have e : orI (A : Int) (a : Int) = ((A ||| a : Nat) : Int) := or_nat A a (by omega) (by omega)
      refine ⟨A ||| a, ?_, Nat.or_lt_two_pow h2 hlt, fun q => ?_⟩
      · rw [List.concat_eq_append, List.map_append, List.map_singleton, atts_snoc, h1]
        show orI _ (attrsN vals m vals.length) = _
        rw [ha, e]
      · rw [Nat.testBit_or, Bool.or_eq_true, h3, hb]
        constructor
        · rintro (⟨h, h4⟩ | ⟨h, h4⟩)
          · exact ⟨h, by simp [h4]⟩
          · exact ⟨h, by simp [h4]⟩
        · rintro ⟨h, h4⟩
          simp at h4
          rcases h4 with h4 | h4
          · exact .inl ⟨h, h4⟩
          · exact .inr ⟨h, h4⟩
theorem const_in {sc : List Int} (hup : Up sc) (m : Int) : (m ∉ sc ∧ constN sc m sc.length = -1) ∨ (∃ i : Nat, ∃ h : i < sc.length, sc[i] = m ∧ constN sc m sc.length = (i : Int)) := by
  rcases const_spec sc m sc.length with ⟨h1, h2⟩ | ⟨q, h1, h2, h3⟩
  · refine .inl ⟨fun hm => ?_, h1⟩
    obtain ⟨i, hi, rfl⟩ := List.getElem_of_mem hm
    exact h2 i hi (by rw [List.getD_eq_getElem?_getD, List.getElem?_eq_getElem hi]; rfl)
  · refine .inr ⟨q, h2, ?_, h1⟩
    rw [List.getD_eq_getElem?_getD, List.getElem?_eq_getElem h2] at h3
    exact h3
theorem count_less {L sc : List Int} (hL : Up L) (hsc : Up sc) (hin : ∀ x ∈ sc, x ∈ L) {i : Nat} (hi : i < L.length) : ((L.take i).filter fun x => decide (x ∈ sc)) = sc.filter fun x => decide (x < L[i]) := by
  refine up_ext _ _ (List.Pairwise.filter _ (hL.sublist (List.take_sublist _ _))) (List.Pairwise.filter _ hsc) fun z => ?_
  simp only [List.mem_filter, decide_eq_true_eq]
  constructor
  · rintro ⟨h1, h2⟩
    obtain ⟨j, hj, rfl⟩ := List.getElem_of_mem h1
    rw [List.length_take] at hj
    rw [List.getElem_take] at h2 ⊢
    exact ⟨h2, List.pairwise_iff_getElem.1 hL j i (by omega) hi (by omega)⟩
  · rintro ⟨h1, h2⟩
    refine ⟨?_, h1⟩
    obtain ⟨j, hj, rfl⟩ := List.getElem_of_mem (hin z h1)
    rcases Nat.lt_or_ge j i with h | h
    · exact List.mem_iff_getElem.2 ⟨j, by rw [List.length_take]; omega, by rw [List.getElem_take]⟩
    · rcases Nat.lt_or_ge i j with h3 | h3
      · have := List.pairwise_iff_getElem.1 hL i j hi hj h3
        omega
      · obtain rfl : i = j := by omega
        omega
theorem less_idx {sc : List Int} (hsc : Up sc) {i : Nat} (hi : i < sc.length) : (sc.filter fun x => decide (x < sc[i])).length = i := by
  have : (sc.filter fun x => decide (x < sc[i])) = sc.take i := by
    refine up_ext _ _ (List.Pairwise.filter _ hsc) (hsc.sublist (List.take_sublist _ _)) fun z => ?_
    simp only [List.mem_filter, decide_eq_true_eq]
    constructor
    · rintro ⟨h1, h2⟩
      obtain ⟨j, hj, rfl⟩ := List.getElem_of_mem h1
      rcases Nat.lt_or_ge j i with h | h
      · exact List.mem_iff_getElem.2 ⟨j, by rw [List.length_take]; omega, by rw [List.getElem_take]⟩
      · rcases Nat.lt_or_ge i j with h3 | h3
        · have := List.pairwise_iff_getElem.1 hsc i j hi hj h3
          omega
        · obtain rfl : i = j := by omega
          omega
    · intro h1
      obtain ⟨j, hj, rfl⟩ := List.getElem_of_mem h1
      rw [List.length_take] at hj
      rw [List.getElem_take]
      exact ⟨List.getElem_mem _, List.pairwise_iff_getElem.1 hsc j i (by omega) hi (by omega)⟩
  rw [this, List.length_take]
  omega
theorem nextN_map (vals c : List Int) (L : List Int) : nextN (L.map (clsOf vals c)) = (L.filter fun x => decide (x ∈ sortR c)).length := by
  have hup := (sortR_up c).1
  unfold nextN
  rw [List.countP_map, List.countP_eq_length_filter]
  congr 1
  refine List.filter_congr fun x _ => ?_
  show (!((clsOf vals c x).const == -1)) = _
  unfold clsOf
  rcases const_in hup x with ⟨h1, h2⟩ | ⟨i, hi, h1, h2⟩
  · simp [h2, h1]
  · have : x ∈ sortR c := h1 ▸ List.getElem_mem hi
    rw [h2, Bool.eq_iff_iff]
    simp [this]
theorem formed_zone (vals c : List Int) (hv : vals.length ≤ 31) : FormedP (clsL vals c) (vals.length : Int) ((sortR c).length : Int) := by
  have hL := (sortR_up (vals ++ c)).1
  have hm := (sortR_up (vals ++ c)).2
  have hsc := (sortR_up c).1
  have hscm := (sortR_up c).2
  have hin : ∀ x ∈ sortR c, x ∈ numsL vals c := fun x hx => (hm x).2 (List.mem_append_right _ ((hscm x).1 hx))
  have hvin : ∀ x ∈ vals, x ∈ numsL vals c := fun x hx => (hm x).2 (List.mem_append_left _ hx)
  unfold clsL
  have hmem : ∀ x ∈ numsL vals c, x ∈ vals ∨ x ∈ sortR c := fun x hx => (List.mem_append.1 ((hm x).1 hx)).imp id (hscm x).2
  have hL : Up (numsL vals c) := hL
  clear hm
  generalize numsL vals c = L at *
  refine ⟨fun i hi => ?_, ?_, ?_⟩
  · rw [List.length_map] at hi
    rw [← List.map_take, List.getElem_map]
    obtain ⟨A, h1, h2, h3⟩ := atts_bits vals c hv (L.take i)
    obtain ⟨a, ha, hlt⟩ := attrs_nat vals L[i] vals.length hv
    have hb := attrs_bit vals L[i] hv ha hlt
    have hca : (clsOf vals c L[i]).attrs = (a : Int) := ha
    have hcc : (clsOf vals c L[i]).const = constN (sortR c) L[i] (sortR c).length := rfl
    refine ⟨by rw [hca]; omega, ?_, ?_, ?_⟩
    · rw [hca, h1]
      show bits .and .i64 (a : Int) (A : Int) = 0
      rw [and_nn a A (by omega) (by omega)]
      have : a &&& A = 0 := by
        apply Nat.eq_of_testBit_eq
        intro q
        rw [Nat.testBit_and, Nat.zero_testBit, Bool.and_eq_false_iff]
        rcases hq : a.testBit q with _ | _
        · exact .inl rfl
        · refine .inr (Bool.eq_false_iff.2 fun h4 => ?_)
          obtain ⟨h5, h6⟩ := (hb q).1 hq
          obtain ⟨_, h7⟩ := (h3 q).1 h4
          rw [h6] at h7
          obtain ⟨j, hj, h8⟩ := List.getElem_of_mem h7
          rw [List.length_take] at hj
          rw [List.getElem_take] at h8
          have := List.pairwise_iff_getElem.1 hL j i (by omega) hi (by omega)
          omega
      rw [this]
      rfl
    · rintro ⟨h4, h5⟩
      rw [hca] at h4
      rw [hcc] at h5
      obtain rfl : a = 0 := by omega
      rcases hmem L[i] (List.getElem_mem hi) with h6 | h6
      · obtain ⟨q, hq, h7⟩ := List.getElem_of_mem h6
        have := (hb q).2 ⟨hq, h7⟩
        simp at this
      · rcases const_in hsc L[i] with ⟨h7, _⟩ | ⟨j, hj, h7, h8⟩
        · exact h7 h6
        · omega
    · rw [hcc, nextN_map]
      rcases const_in hsc L[i] with ⟨_, h7⟩ | ⟨j, hj, h7, h8⟩
      · exact .inl h7
      · refine .inr ?_
        rw [h8, count_less hL hsc hin hi, ← h7, less_idx hsc hj]
  · obtain ⟨A, h1, h2, h3⟩ := atts_bits vals c hv L
    rw [h1]
    unfold firstI
    have e1 : (max 0 (min (vals.length : Int) 31)).toNat = vals.length := by omega
    rw [e1]
    have hA : A = 2 ^ vals.length - 1 := by
      apply Nat.eq_of_testBit_eq
      intro q
      rw [Nat.testBit_two_pow_sub_one, Bool.eq_iff_iff, h3]
      simp only [decide_eq_true_eq]
      exact ⟨fun h => h.1, fun h => ⟨h, hvin _ (List.getElem_mem h)⟩⟩
    have h5 : 1 ≤ 2 ^ vals.length := Nat.one_le_two_pow
    have h6 : (2 : Int) ^ vals.length = ((2 ^ vals.length : Nat) : Int) := by simp
    rw [hA, h6]
    omega
  · rw [nextN_map]
    congr 1
    have : (L.filter fun x => decide (x ∈ sortR c)) = sortR c := by
      refine up_ext _ _ (List.Pairwise.filter _ hL) hsc fun z => ?_
      simp only [List.mem_filter, decide_eq_true_eq]
      exact ⟨fun h => h.2, fun h => ⟨hin z h, h⟩⟩
    rw [this]
end
end Go.Proofs.YtbahakgmbceflaaGreat
