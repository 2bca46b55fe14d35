/-
  Parts of the proof: D5, D6.
-/
import Derived.Test.YtfocnmkbnccilaaGreatRun9
set_option linter.unusedVariables false
set_option linter.unusedSimpArgs false
namespace Go.Proofs.YtfocnmkbnccilaaGreat
section
open Go.RowKit
def in31 (o : Int) : Prop := 0 ≤ o ∧ o < 2147483648
theorem in31_ok {o : Int} (h : in31 o) : ok64 o := by unfold in31 at h; unfold ok64; omega
theorem low_31 (s : Int) : in31 (low s : Int) := by
  have := low_lt s
  unfold in31
  omega
theorem withB_31 (s i : Int) : in31 (withB s i) := by
  unfold withB
  split
  · have h1 : low s ||| 2 ^ i.toNat < 2 ^ 31 := Nat.or_lt_two_pow (low_lt s) (Nat.pow_lt_pow_right (by omega) (by omega))
    unfold in31
    omega
  · exact low_31 s
theorem withoutB_31 (s i : Int) : in31 (withoutB s i) := by
  unfold withoutB
  split
  · have h1 : low s ^^^ (low s &&& 2 ^ i.toNat) < 2 ^ 31 := Nat.xor_lt_two_pow (low_lt s) (Nat.lt_of_le_of_lt Nat.and_le_left (low_lt s))
    unfold in31
    omega
  · exact low_31 s
theorem fold_31 : ∀ (l : List Int) (o : Int), in31 o → in31 (l.foldl withoutB o)
  | [], o, h => h
  | i :: l, o, h => fold_31 l _ (withoutB_31 o i)
theorem undo_31 (l : List Ml) (st d : Int) (h : in31 d) : ∀ k, in31 (undo l st d k)
  | 0 => h
  | k + 1 => by
    unfold undo
    split
    · exact withoutB_31 _ _
    · exact undo_31 l st d h k
theorem fold_has : ∀ (l : List Int) (o j : Int), hasB (l.foldl withoutB o) j = (hasB o j && !decide (j ∈ l))
  | [], o, j => by simp
  | i :: l, o, j => by
    rw [List.foldl_cons, fold_has l, hasB_without]
    by_cases h : j = i
    · simp [h]
    · have : (j == i) = false := by simpa using h
      simp [this, h]
theorem undo_has (l : List Ml) (st d : Int) (i : Nat) : ∀ k, hasB (undo l st d k) (i : Int) = (hasB d (i : Int) && !(decide (i < k) && decide (l[i]?.map (·.stage) = some st)))
  | 0 => by simp [undo]
  | k + 1 => by
    unfold undo
    split
    · rename_i h
      rw [hasB_without, undo_has l st d i k]
      by_cases hik : i = k
      · subst hik
        simp [h]
      · have e1 : ((i : Int) == (k : Int)) = false := by simp; omega
        have e2 : decide (i < k + 1) = decide (i < k) := by rw [decide_eq_decide]; omega
        rw [e1, e2]
        simp
    · rename_i h
      rw [undo_has l st d i k]
      by_cases hik : i = k
      · subst hik
        simp [h]
      · have e2 : decide (i < k + 1) = decide (i < k) := by rw [decide_eq_decide]; omega
        rw [e2]
/-- a set's truths, but for some -/
def maskL (s : Int) (p : Nat → Bool) : List Bool := (List.range 31).map fun (i : Nat) => hasB s (i : Int) && !p i
def upto (q : Nat → Bool) (k : Nat) : Nat → Bool := fun i => decide (i < k) && q i
theorem mask_zero (s : Int) (q : Nat → Bool) : maskL s (upto q 0) = inL s := by simp [maskL, inL, upto]
theorem mask_len (s : Int) (p : Nat → Bool) : (maskL s p).length = 31 := by simp [maskL]
theorem mask_yes {s : Int} {q : Nat → Bool} {k : Nat} (h : q k = true) : (maskL s (upto q k)).set k false = maskL s (upto q (k + 1)) := by
  apply List.ext_getElem?
  intro i
  rw [List.getElem?_set]
  simp only [maskL, List.getElem?_map, List.length_map, List.length_range]
  by_cases hi : i < 31
  · rw [List.getElem?_range hi]
    split
    · rename_i e
      subst e
      rw [if_pos hi]
      simp [upto, h]
    · rename_i e
      have e2 : decide (i < k + 1) = decide (i < k) := by rw [decide_eq_decide]; omega
      simp [upto, e2]
  · rw [List.getElem?_eq_none (by simp; omega)]
    split
    · rw [if_neg (by omega)]; rfl
    · rfl
theorem mask_no {s : Int} {q : Nat → Bool} {k : Nat} (h : q k = false) : maskL s (upto q k) = maskL s (upto q (k + 1)) := by
  have : upto q k = upto q (k + 1) := by
    funext i
    unfold upto
    by_cases hik : i = k
    · subst hik
      simp [h]
    · have e2 : decide (i < k + 1) = decide (i < k) := by rw [decide_eq_decide]; omega
      rw [e2]
  rw [this]
theorem mask_sum (s : Int) (p : Nat → Bool) {t : Int} (ht : in31 t) (h : ∀ j : Nat, j < 31 → hasB t (j : Int) = (hasB s (j : Int) && !p j)) : sumF (maskL s p) 31 = t := by
  have hr := bitsN_lt (fun j => (maskL s p).getD j false) 31
  unfold sumF
  refine set_ext (by omega) ht fun j hj => ?_
  rw [bitsN_has _ j hj, h j hj]
  simp [maskL, hj]
noncomputable def qA (m : Mod) (st : Int) : Nat → Bool := fun i => decide ((i : Int) = st) || decide (isL (pars m) st (i : Int))
def qB (m : Mod) (st : Int) : Nat → Bool := fun i => decide (m.miles[i]?.map (·.stage) = some st)
theorem mask_A {m : Mod} {st s : Int} (hst : isAt (pars m) st) (hs : in31 s) : sumF (maskL s (upto (qA m st) m.stages.length)) 31 = (belowL (pars m) st ++ [st]).foldl withoutB s := by
  refine mask_sum s _ (fold_31 _ _ hs) fun j hj => ?_
  rw [fold_has]
  congr 2
  have hpl : (pars m).length = m.stages.length := by simp [pars]
  rw [Bool.eq_iff_iff]
  simp only [decide_eq_true_eq, upto, qA, Bool.and_eq_true, Bool.or_eq_true, List.mem_append, List.mem_singleton]
  unfold belowL
  rw [if_pos hst]
  simp only [List.mem_map, List.mem_filter, List.mem_range, decide_eq_true_eq]
  have hst' := hst
  unfold isAt at hst'
  constructor
  · rintro (⟨k, ⟨h1, h2, h3⟩, h4⟩ | h)
    · obtain rfl : k = j := by omega
      obtain ⟨i, h5, h6, h7⟩ := (mem_above (pars m) (k : Int) st hst'.1 h2).1 h3
      exact ⟨by omega, .inr ⟨i, h5, h6, hst'.1, h7⟩⟩
    · exact ⟨by omega, .inl h⟩
  · rintro ⟨h1, h2⟩
    by_cases he : (j : Int) = st
    · exact .inr he
    · left
      rcases h2 with h2 | ⟨i, h5, h6, h7, h8⟩
      · exact absurd h2 he
      · exact ⟨j, ⟨by omega, he, (mem_above (pars m) (j : Int) st hst'.1 he).2 ⟨i, h5, h6, h8⟩⟩, rfl⟩
theorem mask_B {m : Mod} {st s : Int} (hs : in31 s) : sumF (maskL s (upto (qB m st) m.miles.length)) 31 = undo m.miles st s m.miles.length := by
  refine mask_sum s _ (undo_31 _ _ _ hs _) fun j hj => ?_
  rw [undo_has]
  rfl
theorem bools_plain {l : List Bool} : ∀ row ∈ l.map (fun b => [eB b]), ∀ av ∈ row, av.plain := fun row hr av ha => by
  obtain ⟨n, _, rfl⟩ := List.mem_map.1 hr
  simp at ha
  subst ha
  trivial
set_option maxRecDepth 100000 in
set_option maxHeartbeats 8000000 in
theorem fire18_A (m : Mod) (s : St) (xm : Bool) (xn : Int) (hf : Fit m) (hp : ∀ p ∈ m.stages, ok64 p.2) (ho : in31 s.opn) (hd : in31 s.don) : ADet Tryz.prog 34 [.agg (eMod m), .agg (eSt s), .agg [eB xm, eI xn]] ⟨.agg (eSt (fireM m s (xm, xn))), [], 0⟩ := by
  refine adet_of_code mixedT Tryz.func34 rfl (by decide) Tryz.ntmps34 Tryz.results34 rfl (⟨fun id o h => (by cases h), ⟨trivial, trivial, trivial, trivial, trivial, trivial⟩⟩) ?_
  obtain ⟨hgl, hml, hsl, -⟩ := id hf.sizes
  have hpl : (pars m).length = m.stages.length := by simp [pars]
  have hpo : ∀ x ∈ pars m, ok64 x := fun x hx => by
    obtain ⟨p, hp', rfl⟩ := List.mem_map.1 hx
    exact hp p hp'
  have ro : roL [.agg (eMod m), .agg (eSt s), .agg [eB xm, eI xn]] := by simp [roL, roA, treeL, treeC]
  cases xm with
  | true =>
    by_cases hin : 0 ≤ xn ∧ xn < (m.miles.length : Int)
    · obtain ⟨k, rfl⟩ : ∃ k : Nat, xn = (k : Int) := ⟨xn.toNat, by omega⟩
      have hk : k < m.miles.length := by omega
      have ei : inB (k : Int) (m.miles.length : Int) = true := by simp [inB]; omega
      by_cases hst : 0 ≤ m.miles[k].stage ∧ m.miles[k].stage < (m.stages.length : Int)
      · have es : inB m.miles[k].stage (m.stages.length : Int) = true := by unfold inB; simp; omega
        have hs2 : inS m m.miles[k].stage = true := by unfold inS; simp; omega
        have eR : fireM m s (true, (k : Int)) = { s with don := withB s.don k, opn := (belowL (pars m) m.miles[k].stage ++ [m.miles[k].stage]).foldl withoutB s.opn } := by
          simp [fireM, sentryM, hk, hs2]
        rw [eR, ← mask_A (m := m) (by unfold isAt; omega) ho]
        have eK : eMl m.miles[k] = [eS m.miles[k].name, eI m.miles[k].stage, eI m.miles[k].event, sInsts m.miles[k].cond, eB m.miles[k].final] := rfl
        generalize hstg : m.miles[k].stage = st at hst es hs2 eK
        have hput := put_A s.don (k : Int) true (in31_ok hd) (by omega) (by omega)
        simp only [if_true] at hput
        (repeat' (first | simp (maxSteps := 5000000) (implicitDefEqProofs := false) only [ruA, ruB, aEv, aTake, aLoad, aField, ASt.get, aget, ASt.put, aBox, aCells, oneC, oneCL, Value.cells, Value.oneCell', envOf, ↓reduceIte, reduceCtorEq, Nat.reduceLT, Nat.reduceEqDiff, Nat.reduceAdd, Nat.reduceLeDiff, eq_self, tyZ_47, tyF_77_0, tyA_4, tyS_4] | (with_reducible refine aIf_split (fun _ => ?_) (fun _ => ?_)) | (with_reducible refine aSel_split (fun _ => ?_) (fun _ => ?_)) | (with_reducible refine aGd_split (fun _ => ?_) (fun _ => ?_))))
        refine aDraw_quiet (by kernel_rfl) ?_
        (repeat' (first | simp (maxSteps := 5000000) (implicitDefEqProofs := false) only [ruA, ruB, aEv, aTake, aLoad, aField, aLen, aUn, un1, ASt.get, aget, ASt.put, ↓reduceIte, reduceCtorEq, Nat.reduceLT, Nat.reduceEqDiff, Nat.reduceAdd, Nat.reduceLeDiff, eq_self, ne_eq, dref, tyF_77_1, tyA_3, tyS_3, tyF_32_7, tyA_28, tyS_28, tyE_28] | (with_reducible refine aIf_split (fun _ => ?_) (fun _ => ?_)) | (with_reducible refine aSel_split (fun _ => ?_) (fun _ => ?_)) | (with_reducible refine aGd_split (fun _ => ?_) (fun _ => ?_))))
        refine callD (in18_A _ _) ?_
        (repeat' (first | simp (maxSteps := 5000000) (implicitDefEqProofs := false) only [ruA, ruB, aEv, aTake, aLoad, aField, aIndex, aLen, aUn, un1, ASt.get, aget, ASt.put, ↓reduceIte, reduceCtorEq, Nat.reduceLT, Nat.reduceEqDiff, Nat.reduceAdd, Nat.reduceLeDiff, eq_self, ne_eq, dref, tyF_77_1, tyA_3, tyS_3, tyF_32_7, tyA_28, tyS_28, tyE_28, tyF_59_1, tyF_32_4, tyA_25, tyS_25, tyE_25, row_at, hk, ei, hstg] | (with_reducible refine aIf_split (fun _ => ?_) (fun _ => ?_)) | (with_reducible refine aSel_split (fun _ => ?_) (fun _ => ?_)) | (with_reducible refine aGd_split (fun _ => ?_) (fun _ => ?_))))
        refine callD (in18_A _ _) ?_
        (repeat' (first | simp (maxSteps := 5000000) (implicitDefEqProofs := false) only [ruA, ruB, aEv, aTake, aLoad, aField, aIndex, ASt.get, aget, ASt.put, ↓reduceIte, reduceCtorEq, Nat.reduceLT, Nat.reduceEqDiff, Nat.reduceAdd, Nat.reduceLeDiff, eq_self, tyF_77_1, tyA_3, tyS_3, tyF_32_7, tyA_28, tyS_28, tyE_28, tyF_59_1, tyF_47_2, row_at, hk, es, hstg] | (with_reducible refine aIf_split (fun _ => ?_) (fun _ => ?_)) | (with_reducible refine aSel_split (fun _ => ?_) (fun _ => ?_)) | (with_reducible refine aGd_split (fun _ => ?_) (fun _ => ?_))))
        refine callV hput ?_
        (repeat' (first | simp (maxSteps := 5000000) (implicitDefEqProofs := false) only [ruA, ruB, aEv, aTake, aLoad, aField, ASt.get, aget, ASt.put, aStore, aCells, oneC, oneCL, Value.cells, Value.oneCell', ↓reduceIte, reduceCtorEq, Nat.reduceLT, Nat.reduceEqDiff, Nat.reduceAdd, Nat.reduceLeDiff, eq_self, tyA_3, tyS_3, tyF_47_2, tyF_47_1] | (with_reducible refine aIf_split (fun _ => ?_) (fun _ => ?_)) | (with_reducible refine aSel_split (fun _ => ?_) (fun _ => ?_)) | (with_reducible refine aGd_split (fun _ => ?_) (fun _ => ?_))))
        refine callO (inR_A s.opn (in31_ok ho)) (.inr bools_plain) ?_
        (repeat' (first | simp (maxSteps := 5000000) (implicitDefEqProofs := false) only [ruA, aEv, ASt.get, aget, ASt.put, ↓reduceIte, Nat.reduceLT, Nat.reduceAdd, eq_self] | (with_reducible refine aIf_split (fun _ => ?_) (fun _ => ?_)) | (with_reducible refine aSel_split (fun _ => ?_) (fun _ => ?_)) | (with_reducible refine aGd_split (fun _ => ?_) (fun _ => ?_))))
        rw [← mask_zero s.opn (qA m st)]
        refine aLoop_of (fun s' => ∃ i : Nat, i ≤ m.stages.length ∧ s' = ⟨148, [(3, .op 0 0 0), (4, .op 1 0 0), (6, .op 2 0 0), (7, eI st), (8, .osl 3), (9, eI (i : Int))], [(0, some (.box 32 (eMod m))), (1, some (.box 47 (eSt { s with don := withB s.don k }))), (2, some (.box 47 [.c (.slice none 0 0), eI 0, eI 0, .c (.slice none 0 0), .c (.slice none 0 0)])), (3, some (.row 4 1 ((maskL s.opn (upto (qA m st) i)).map fun b => [eB b])))], 4⟩) (fun s' => m.stages.length - slotN s' 9) ⟨_, (weak_ren1 [0, 1, 3, 4] ⟨(by decide), (by (first | ((simp only [envInR, tabInR, envLt, tabLt, AObj.lt, AV.lt, AV.ltL, AV.ren, AV.renL, AObj.ren, List.getD_cons_zero, List.getD_cons_succ, List.length_cons, List.length_nil, ruW, ASt.get, aget, ↓reduceIte, reduceCtorEq, Nat.reduceLT, Nat.reduceEqDiff, Nat.reduceAdd, eq_self]) <;> (repeat' apply And.intro) <;> first | (rw [wrapK (by omega)]; done) | (simp; done) | omega) | fail))⟩), 0, Nat.zero_le _, rfl⟩ ?_
        rintro _ ⟨i, hi, rfl⟩
        have hml31 := mask_len s.opn (upto (qA m st) i)
        by_cases hlt : i < m.stages.length
        · have hi31 : i < (maskL s.opn (upto (qA m st) i)).length := by omega
          have hset : (((maskL s.opn (upto (qA m st) i)).map fun b => [eB b]).set i [eB false]) = ((maskL s.opn (upto (qA m st) i)).set i false).map fun b => [eB b] := by rw [List.map_set]
          (repeat' (first | simp (maxSteps := 5000000) (implicitDefEqProofs := false) only [ruA, ruB, aEv, aTake, aLoad, aField, aIndex, aLen, aBin, bin2, ASt.get, aget, ASt.put, aStore, aCells, oneC, oneCL, treeC, treeL, Value.cells, Value.oneCell', ↓reduceIte, reduceCtorEq, Nat.reduceLT, Nat.reduceEqDiff, Nat.reduceAdd, Nat.reduceLeDiff, eq_self, ne_eq, tyS_4, tyF_32_4, tyA_25, tyS_25, tyE_25, tyE_89, tyA_32, tyS_32, row_at, hlt, hi31] | (with_reducible refine aIf_split (fun _ => ?_) (fun _ => ?_)) | (with_reducible refine aSel_split (fun _ => ?_) (fun _ => ?_)) | (with_reducible refine aGd_split (fun _ => ?_) (fun _ => ?_))))
          · rename_i h
            have hq : qA m st i = true := by simp [qA]; left; simpa using h
            exact roundI (weak_cut1 (by (first | ((simp only [envIn, tabIn, envLt, tabLt, AObj.lt, AV.lt, AV.ltL, ruW, ASt.get, aget, ↓reduceIte, reduceCtorEq, Nat.reduceLT, Nat.reduceEqDiff, eq_self, hset, mask_yes hq]) <;> (repeat' apply And.intro) <;> first | (rw [wrapK (by omega)]; done) | (simp; done) | omega) | fail))) ⟨i + 1, by omega, rfl⟩ (by simp only [slotN, ruW, ASt.get, aget, ↓reduceIte, Nat.reduceLT, Nat.reduceEqDiff, eq_self]; omega)
          · rename_i h
            refine callO (parR_A m (by omega)) (.inr ints_plain) ?_
            (repeat' (first | simp (maxSteps := 5000000) (implicitDefEqProofs := false) only [ruA, ruB, aEv, ASt.get, aget, ASt.put, ↓reduceIte, Nat.reduceLT, Nat.reduceEqDiff, Nat.reduceAdd, eq_self] | (with_reducible refine aIf_split (fun _ => ?_) (fun _ => ?_)) | (with_reducible refine aSel_split (fun _ => ?_) (fun _ => ?_)) | (with_reducible refine aGd_split (fun _ => ?_) (fun _ => ?_))))
            refine callV (isR_A (pars m) st (i : Int) (by omega) hpo) ?_
            (repeat' (first | simp (maxSteps := 5000000) (implicitDefEqProofs := false) only [ruA, ruB, aEv, aIndex, aBin, bin2, ASt.get, aget, ASt.put, aStore, aCells, oneC, oneCL, treeC, treeL, Value.cells, Value.oneCell', ↓reduceIte, Nat.reduceLT, Nat.reduceEqDiff, eq_self, tyS_4, tyE_89, row_at, hi31] | (with_reducible refine aIf_split (fun _ => ?_) (fun _ => ?_)) | (with_reducible refine aSel_split (fun _ => ?_) (fun _ => ?_)) | (with_reducible refine aGd_split (fun _ => ?_) (fun _ => ?_))))
            · rename_i h2
              have hq : qA m st i = true := by simp only [qA, h2, Bool.or_true]
              exact roundI (weak_ren1 [0, 1, 2, 3] ⟨(by decide), (by (first | ((simp only [envInR, tabInR, envLt, tabLt, AObj.lt, AV.lt, AV.ltL, AV.ren, AV.renL, AObj.ren, List.getD_cons_zero, List.getD_cons_succ, List.length_cons, List.length_nil, ruW, ASt.get, aget, ↓reduceIte, reduceCtorEq, Nat.reduceLT, Nat.reduceEqDiff, Nat.reduceAdd, eq_self, hset, mask_yes hq]) <;> (repeat' apply And.intro) <;> first | (rw [wrapK (by omega)]; done) | (simp; done) | omega) | fail))⟩) ⟨i + 1, by omega, rfl⟩ (by simp only [slotN, ruW, ASt.get, aget, ↓reduceIte, Nat.reduceLT, Nat.reduceEqDiff, eq_self]; omega)
            · rename_i h2
              have hq : qA m st i = false := by
                simp only [qA, h2, Bool.or_false]
                simpa using h
              exact roundI (weak_ren1 [0, 1, 2, 3] ⟨(by decide), (by (first | ((simp only [envInR, tabInR, envLt, tabLt, AObj.lt, AV.lt, AV.ltL, AV.ren, AV.renL, AObj.ren, List.getD_cons_zero, List.getD_cons_succ, List.length_cons, List.length_nil, ruW, ASt.get, aget, ↓reduceIte, reduceCtorEq, Nat.reduceLT, Nat.reduceEqDiff, Nat.reduceAdd, eq_self, mask_no hq]) <;> (repeat' apply And.intro) <;> first | (rw [wrapK (by omega)]; done) | (simp; done) | omega) | fail))⟩) ⟨i + 1, by omega, rfl⟩ (by simp only [slotN, ruW, ASt.get, aget, ↓reduceIte, Nat.reduceLT, Nat.reduceEqDiff, eq_self]; omega)
        · obtain rfl : i = m.stages.length := by omega
          have hsum := sum_A (maskL s.opn (upto (qA m st) m.stages.length)) (by omega)
          rw [hml31] at hsum
          (repeat' (first | simp (maxSteps := 5000000) (implicitDefEqProofs := false) only [ruA, ruB, aEv, aTake, aLoad, aField, aLen, aBin, bin2, ASt.get, aget, ASt.put, ↓reduceIte, reduceCtorEq, Nat.reduceLT, Nat.reduceEqDiff, Nat.reduceAdd, Nat.reduceLeDiff, eq_self, ne_eq, tyF_32_4, tyA_25, tyS_25, tyE_25, hlt] | (with_reducible refine aIf_split (fun _ => ?_) (fun _ => ?_)) | (with_reducible refine aSel_split (fun _ => ?_) (fun _ => ?_)) | (with_reducible refine aGd_split (fun _ => ?_) (fun _ => ?_))))
          refine callV (by exact hsum) ?_
          (repeat' (first | simp (maxSteps := 5000000) (implicitDefEqProofs := false) only [ruA, ruB, aEv, aTake, aLoad, aField, ASt.get, aget, ASt.put, aStore, aCells, oneC, oneCL, Value.cells, Value.oneCell', aResL, aOne, ↓reduceIte, Nat.reduceLT, Nat.reduceEqDiff, Nat.reduceAdd, Nat.reduceLeDiff, eq_self, tyA_47, tyS_47, tyS_3, tyF_47_1] | (with_reducible refine aIf_split (fun _ => ?_) (fun _ => ?_)) | (with_reducible refine aSel_split (fun _ => ?_) (fun _ => ?_)) | (with_reducible refine aGd_split (fun _ => ?_) (fun _ => ?_))))
          exact gives_tree (by simp [AV.ren, AV.renL])
      · have es : inB m.miles[k].stage (m.stages.length : Int) = false := by unfold inB; rw [Bool.and_eq_false_iff]; simp only [decide_eq_false_iff_not]; omega
        have eR : fireM m s (true, (k : Int)) = s := by
          have : inS m m.miles[k].stage = false := by unfold inS; rw [Bool.and_eq_false_iff]; simp only [decide_eq_false_iff_not]; omega
          simp [fireM, sentryM, hk, this]
        rw [eR]
        (repeat' (first | simp (maxSteps := 5000000) (implicitDefEqProofs := false) only [ruA, ruB, aEv, aTake, aLoad, aField, ASt.get, aget, ASt.put, aBox, aCells, oneC, oneCL, Value.cells, Value.oneCell', envOf, ↓reduceIte, reduceCtorEq, Nat.reduceLT, Nat.reduceEqDiff, Nat.reduceAdd, Nat.reduceLeDiff, eq_self, tyZ_47, tyF_77_0, tyA_4, tyS_4] | (with_reducible refine aIf_split (fun _ => ?_) (fun _ => ?_)) | (with_reducible refine aSel_split (fun _ => ?_) (fun _ => ?_)) | (with_reducible refine aGd_split (fun _ => ?_) (fun _ => ?_))))
        refine aDraw_quiet (by kernel_rfl) ?_
        (repeat' (first | simp (maxSteps := 5000000) (implicitDefEqProofs := false) only [ruA, ruB, aEv, aTake, aLoad, aField, aLen, aUn, un1, ASt.get, aget, ASt.put, ↓reduceIte, reduceCtorEq, Nat.reduceLT, Nat.reduceEqDiff, Nat.reduceAdd, Nat.reduceLeDiff, eq_self, ne_eq, dref, tyF_77_1, tyA_3, tyS_3, tyF_32_7, tyA_28, tyS_28, tyE_28] | (with_reducible refine aIf_split (fun _ => ?_) (fun _ => ?_)) | (with_reducible refine aSel_split (fun _ => ?_) (fun _ => ?_)) | (with_reducible refine aGd_split (fun _ => ?_) (fun _ => ?_))))
        refine callD (in18_A _ _) ?_
        (repeat' (first | simp (maxSteps := 5000000) (implicitDefEqProofs := false) only [ruA, ruB, aEv, aTake, aLoad, aField, aIndex, aLen, aUn, un1, ASt.get, aget, ASt.put, ↓reduceIte, reduceCtorEq, Nat.reduceLT, Nat.reduceEqDiff, Nat.reduceAdd, Nat.reduceLeDiff, eq_self, ne_eq, dref, tyF_77_1, tyA_3, tyS_3, tyF_32_7, tyA_28, tyS_28, tyE_28, tyF_59_1, tyF_32_4, tyA_25, tyS_25, tyE_25, row_at, hk, ei] | (with_reducible refine aIf_split (fun _ => ?_) (fun _ => ?_)) | (with_reducible refine aSel_split (fun _ => ?_) (fun _ => ?_)) | (with_reducible refine aGd_split (fun _ => ?_) (fun _ => ?_))))
        refine callD (in18_A _ _) ?_
        (repeat' (first | simp (maxSteps := 5000000) (implicitDefEqProofs := false) only [ruA, ruB, aEv, aTake, aLoad, ASt.get, aget, ASt.put, aStore, aCells, oneC, oneCL, Value.oneCell', aResL, aOne, ↓reduceIte, Nat.reduceLT, Nat.reduceEqDiff, Nat.reduceAdd, eq_self, tyA_47, tyS_47, es] | (with_reducible refine aIf_split (fun _ => ?_) (fun _ => ?_)) | (with_reducible refine aSel_split (fun _ => ?_) (fun _ => ?_)) | (with_reducible refine aGd_split (fun _ => ?_) (fun _ => ?_))))
        exact gives_tree (by simp [AV.ren, AV.renL])
    · have ei : inB xn (m.miles.length : Int) = false := by unfold inB; rw [Bool.and_eq_false_iff]; simp only [decide_eq_false_iff_not]; omega
      have eR : fireM m s (true, xn) = s := by
        have : sentryM m (true, xn) = none := by
          simp only [sentryM, if_true]
          split
          · rw [List.getElem?_eq_none (by omega)]; try rfl
          · rfl
        simp [fireM, this]
      rw [eR]
      (repeat' (first | simp (maxSteps := 5000000) (implicitDefEqProofs := false) only [ruA, ruB, aEv, aTake, aLoad, aField, ASt.get, aget, ASt.put, aBox, aCells, oneC, oneCL, Value.cells, Value.oneCell', envOf, ↓reduceIte, reduceCtorEq, Nat.reduceLT, Nat.reduceEqDiff, Nat.reduceAdd, Nat.reduceLeDiff, eq_self, tyZ_47, tyF_77_0, tyA_4, tyS_4] | (with_reducible refine aIf_split (fun _ => ?_) (fun _ => ?_)) | (with_reducible refine aSel_split (fun _ => ?_) (fun _ => ?_)) | (with_reducible refine aGd_split (fun _ => ?_) (fun _ => ?_))))
      refine aDraw_quiet (by kernel_rfl) ?_
      (repeat' (first | simp (maxSteps := 5000000) (implicitDefEqProofs := false) only [ruA, ruB, aEv, aTake, aLoad, aField, aLen, aUn, un1, ASt.get, aget, ASt.put, ↓reduceIte, reduceCtorEq, Nat.reduceLT, Nat.reduceEqDiff, Nat.reduceAdd, Nat.reduceLeDiff, eq_self, ne_eq, dref, tyF_77_1, tyA_3, tyS_3, tyF_32_7, tyA_28, tyS_28, tyE_28] | (with_reducible refine aIf_split (fun _ => ?_) (fun _ => ?_)) | (with_reducible refine aSel_split (fun _ => ?_) (fun _ => ?_)) | (with_reducible refine aGd_split (fun _ => ?_) (fun _ => ?_))))
      refine callD (in18_A _ _) ?_
      (repeat' (first | simp (maxSteps := 5000000) (implicitDefEqProofs := false) only [ruA, ruB, aEv, aTake, aLoad, ASt.get, aget, ASt.put, aStore, aCells, oneC, oneCL, Value.oneCell', aResL, aOne, ↓reduceIte, Nat.reduceLT, Nat.reduceEqDiff, Nat.reduceAdd, eq_self, tyA_47, tyS_47, ei] | (with_reducible refine aIf_split (fun _ => ?_) (fun _ => ?_)) | (with_reducible refine aSel_split (fun _ => ?_) (fun _ => ?_)) | (with_reducible refine aGd_split (fun _ => ?_) (fun _ => ?_))))
      exact gives_tree (by simp [AV.ren, AV.renL])
  | false =>
    by_cases hin : 0 ≤ xn ∧ xn < (m.guards.length : Int)
    · obtain ⟨k, rfl⟩ : ∃ k : Nat, xn = (k : Int) := ⟨xn.toNat, by omega⟩
      have hk : k < m.guards.length := by omega
      have ei : inB (k : Int) (m.guards.length : Int) = true := by simp [inB]; omega
      by_cases hst : 0 ≤ m.guards[k].stage ∧ m.guards[k].stage < (m.stages.length : Int)
      · have es : inB m.guards[k].stage (m.stages.length : Int) = true := by unfold inB; simp; omega
        have hs2 : inS m m.guards[k].stage = true := by unfold inS; simp; omega
        have eR : fireM m s (false, (k : Int)) = { s with opn := withB s.opn m.guards[k].stage, don := undo m.miles m.guards[k].stage s.don m.miles.length } := by
          simp [fireM, sentryM, hk, hs2]
        rw [eR, ← mask_B hd]
        generalize hstg : m.guards[k].stage = st at hst es hs2
        have hput := put_A s.opn st true (in31_ok ho) hst.1 (by omega)
        simp only [if_true] at hput
        (repeat' (first | simp (maxSteps := 5000000) (implicitDefEqProofs := false) only [ruA, ruB, aEv, aTake, aLoad, aField, ASt.get, aget, ASt.put, aBox, aCells, oneC, oneCL, Value.cells, Value.oneCell', envOf, ↓reduceIte, reduceCtorEq, Nat.reduceLT, Nat.reduceEqDiff, Nat.reduceAdd, Nat.reduceLeDiff, eq_self, tyZ_47, tyF_77_0, tyA_4, tyS_4] | (with_reducible refine aIf_split (fun _ => ?_) (fun _ => ?_)) | (with_reducible refine aSel_split (fun _ => ?_) (fun _ => ?_)) | (with_reducible refine aGd_split (fun _ => ?_) (fun _ => ?_))))
        refine aDraw_quiet (by kernel_rfl) ?_
        (repeat' (first | simp (maxSteps := 5000000) (implicitDefEqProofs := false) only [ruA, ruB, aEv, aTake, aLoad, aField, aLen, aUn, un1, ASt.get, aget, ASt.put, ↓reduceIte, reduceCtorEq, Nat.reduceLT, Nat.reduceEqDiff, Nat.reduceAdd, Nat.reduceLeDiff, eq_self, ne_eq, dref, tyF_77_1, tyA_3, tyS_3, tyF_32_6, tyA_27, tyS_27, tyE_27] | (with_reducible refine aIf_split (fun _ => ?_) (fun _ => ?_)) | (with_reducible refine aSel_split (fun _ => ?_) (fun _ => ?_)) | (with_reducible refine aGd_split (fun _ => ?_) (fun _ => ?_))))
        refine callD (in18_A _ _) ?_
        (repeat' (first | simp (maxSteps := 5000000) (implicitDefEqProofs := false) only [ruA, ruB, aEv, aTake, aLoad, aField, aIndex, aLen, aUn, un1, ASt.get, aget, ASt.put, ↓reduceIte, reduceCtorEq, Nat.reduceLT, Nat.reduceEqDiff, Nat.reduceAdd, Nat.reduceLeDiff, eq_self, ne_eq, dref, tyF_77_1, tyA_3, tyS_3, tyF_32_4, tyA_25, tyS_25, tyE_25, tyF_32_6, tyA_27, tyS_27, tyE_27, tyF_57_0, row_at, hk, ei, hstg] | (with_reducible refine aIf_split (fun _ => ?_) (fun _ => ?_)) | (with_reducible refine aSel_split (fun _ => ?_) (fun _ => ?_)) | (with_reducible refine aGd_split (fun _ => ?_) (fun _ => ?_))))
        refine callD (in18_A _ _) ?_
        (repeat' (first | simp (maxSteps := 5000000) (implicitDefEqProofs := false) only [ruA, ruB, aEv, aTake, aLoad, aField, aIndex, ASt.get, aget, ASt.put, ↓reduceIte, reduceCtorEq, Nat.reduceLT, Nat.reduceEqDiff, Nat.reduceAdd, Nat.reduceLeDiff, eq_self, tyF_77_1, tyA_3, tyS_3, tyF_47_1, tyF_32_6, tyA_27, tyS_27, tyE_27, tyF_57_0, row_at, hk, es, hstg] | (with_reducible refine aIf_split (fun _ => ?_) (fun _ => ?_)) | (with_reducible refine aSel_split (fun _ => ?_) (fun _ => ?_)) | (with_reducible refine aGd_split (fun _ => ?_) (fun _ => ?_))))
        refine callV hput ?_
        (repeat' (first | simp (maxSteps := 5000000) (implicitDefEqProofs := false) only [ruA, ruB, aEv, aTake, aLoad, aField, ASt.get, aget, ASt.put, aStore, aCells, oneC, oneCL, Value.cells, Value.oneCell', ↓reduceIte, reduceCtorEq, Nat.reduceLT, Nat.reduceEqDiff, Nat.reduceAdd, Nat.reduceLeDiff, eq_self, tyA_3, tyS_3, tyF_47_2, tyF_47_1] | (with_reducible refine aIf_split (fun _ => ?_) (fun _ => ?_)) | (with_reducible refine aSel_split (fun _ => ?_) (fun _ => ?_)) | (with_reducible refine aGd_split (fun _ => ?_) (fun _ => ?_))))
        refine callO (inR_A s.don (in31_ok hd)) (.inr bools_plain) ?_
        (repeat' (first | simp (maxSteps := 5000000) (implicitDefEqProofs := false) only [ruA, aEv, ASt.get, aget, ASt.put, ↓reduceIte, Nat.reduceLT, Nat.reduceAdd, eq_self] | (with_reducible refine aIf_split (fun _ => ?_) (fun _ => ?_)) | (with_reducible refine aSel_split (fun _ => ?_) (fun _ => ?_)) | (with_reducible refine aGd_split (fun _ => ?_) (fun _ => ?_))))
        rw [← mask_zero s.don (qB m st)]
        refine aLoop_of (fun s' => ∃ i : Nat, i ≤ m.miles.length ∧ s' = ⟨148, [(3, .op 0 0 0), (4, .op 1 0 0), (6, .op 2 0 0), (10, eI st), (11, .osl 3), (12, eI (i : Int))], [(0, some (.box 32 (eMod m))), (1, some (.box 47 (eSt { s with opn := withB s.opn st }))), (2, some (.box 47 [.c (.slice none 0 0), eI 0, eI 0, .c (.slice none 0 0), .c (.slice none 0 0)])), (3, some (.row 4 1 ((maskL s.don (upto (qB m st) i)).map fun b => [eB b])))], 4⟩) (fun s' => m.miles.length - slotN s' 12) ⟨_, (weak_ren1 [0, 1, 3, 4] ⟨(by decide), (by (first | ((simp only [envInR, tabInR, envLt, tabLt, AObj.lt, AV.lt, AV.ltL, AV.ren, AV.renL, AObj.ren, List.getD_cons_zero, List.getD_cons_succ, List.length_cons, List.length_nil, ruW, ASt.get, aget, ↓reduceIte, reduceCtorEq, Nat.reduceLT, Nat.reduceEqDiff, Nat.reduceAdd, eq_self]) <;> (repeat' apply And.intro) <;> first | (rw [wrapK (by omega)]; done) | (simp; done) | omega) | fail))⟩), 0, Nat.zero_le _, rfl⟩ ?_
        rintro _ ⟨i, hi, rfl⟩
        have hml31 := mask_len s.don (upto (qB m st) i)
        by_cases hlt : i < m.miles.length
        · have hi31 : i < (maskL s.don (upto (qB m st) i)).length := by omega
          have hset : (((maskL s.don (upto (qB m st) i)).map fun b => [eB b]).set i [eB false]) = ((maskL s.don (upto (qB m st) i)).set i false).map fun b => [eB b] := by rw [List.map_set]
          (repeat' (first | simp (maxSteps := 5000000) (implicitDefEqProofs := false) only [ruA, ruB, aEv, aTake, aLoad, aField, aIndex, aLen, aBin, bin2, ASt.get, aget, ASt.put, aStore, aCells, oneC, oneCL, treeC, treeL, Value.cells, Value.oneCell', ↓reduceIte, reduceCtorEq, Nat.reduceLT, Nat.reduceEqDiff, Nat.reduceAdd, Nat.reduceLeDiff, eq_self, ne_eq, tyS_4, tyA_3, tyS_3, tyF_32_7, tyA_28, tyS_28, tyE_28, tyF_59_1, tyE_89, row_at, hlt, hi31] | (with_reducible refine aIf_split (fun _ => ?_) (fun _ => ?_)) | (with_reducible refine aSel_split (fun _ => ?_) (fun _ => ?_)) | (with_reducible refine aGd_split (fun _ => ?_) (fun _ => ?_))))
          · rename_i h
            have hq : qB m st i = true := by simp [qB, hlt]; simpa using h
            exact roundI (weak_cut1 (by (first | ((simp only [envIn, tabIn, envLt, tabLt, AObj.lt, AV.lt, AV.ltL, ruW, ASt.get, aget, ↓reduceIte, reduceCtorEq, Nat.reduceLT, Nat.reduceEqDiff, eq_self, hset, mask_yes hq]) <;> (repeat' apply And.intro) <;> first | (rw [wrapK (by omega)]; done) | (simp; done) | omega) | fail))) ⟨i + 1, by omega, rfl⟩ (by simp only [slotN, ruW, ASt.get, aget, ↓reduceIte, Nat.reduceLT, Nat.reduceEqDiff, eq_self]; omega)
          · rename_i h
            have hq : qB m st i = false := by simp [qB, hlt]; simpa using h
            exact roundI (weak_cut1 (by (first | ((simp only [envIn, tabIn, envLt, tabLt, AObj.lt, AV.lt, AV.ltL, ruW, ASt.get, aget, ↓reduceIte, Nat.reduceLT, Nat.reduceEqDiff, eq_self, mask_no hq]) <;> (repeat' apply And.intro) <;> first | (rw [wrapK (by omega)]; done) | (simp; done) | omega) | fail))) ⟨i + 1, by omega, rfl⟩ (by simp only [slotN, ruW, ASt.get, aget, ↓reduceIte, Nat.reduceLT, Nat.reduceEqDiff, eq_self]; omega)
        · obtain rfl : i = m.miles.length := by omega
          have hsum := sum_A (maskL s.don (upto (qB m st) m.miles.length)) (by omega)
          rw [hml31] at hsum
          (repeat' (first | simp (maxSteps := 5000000) (implicitDefEqProofs := false) only [ruA, ruB, aEv, aTake, aLoad, aField, aLen, aBin, bin2, ASt.get, aget, ASt.put, ↓reduceIte, reduceCtorEq, Nat.reduceLT, Nat.reduceEqDiff, Nat.reduceAdd, Nat.reduceLeDiff, eq_self, ne_eq, tyF_32_7, tyA_28, tyS_28, tyE_28, hlt] | (with_reducible refine aIf_split (fun _ => ?_) (fun _ => ?_)) | (with_reducible refine aSel_split (fun _ => ?_) (fun _ => ?_)) | (with_reducible refine aGd_split (fun _ => ?_) (fun _ => ?_))))
          refine callV (by exact hsum) ?_
          (repeat' (first | simp (maxSteps := 5000000) (implicitDefEqProofs := false) only [ruA, ruB, aEv, aTake, aLoad, aField, ASt.get, aget, ASt.put, aStore, aCells, oneC, oneCL, Value.cells, Value.oneCell', aResL, aOne, ↓reduceIte, Nat.reduceLT, Nat.reduceEqDiff, Nat.reduceAdd, Nat.reduceLeDiff, eq_self, tyA_47, tyS_47, tyS_3, tyF_47_2] | (with_reducible refine aIf_split (fun _ => ?_) (fun _ => ?_)) | (with_reducible refine aSel_split (fun _ => ?_) (fun _ => ?_)) | (with_reducible refine aGd_split (fun _ => ?_) (fun _ => ?_))))
          exact gives_tree (by simp [AV.ren, AV.renL])
      · have es : inB m.guards[k].stage (m.stages.length : Int) = false := by unfold inB; rw [Bool.and_eq_false_iff]; simp only [decide_eq_false_iff_not]; omega
        have eR : fireM m s (false, (k : Int)) = s := by
          have : inS m m.guards[k].stage = false := by unfold inS; rw [Bool.and_eq_false_iff]; simp only [decide_eq_false_iff_not]; omega
          simp [fireM, sentryM, hk, this]
        rw [eR]
        (repeat' (first | simp (maxSteps := 5000000) (implicitDefEqProofs := false) only [ruA, ruB, aEv, aTake, aLoad, aField, ASt.get, aget, ASt.put, aBox, aCells, oneC, oneCL, Value.cells, Value.oneCell', envOf, ↓reduceIte, reduceCtorEq, Nat.reduceLT, Nat.reduceEqDiff, Nat.reduceAdd, Nat.reduceLeDiff, eq_self, tyZ_47, tyF_77_0, tyA_4, tyS_4] | (with_reducible refine aIf_split (fun _ => ?_) (fun _ => ?_)) | (with_reducible refine aSel_split (fun _ => ?_) (fun _ => ?_)) | (with_reducible refine aGd_split (fun _ => ?_) (fun _ => ?_))))
        refine aDraw_quiet (by kernel_rfl) ?_
        (repeat' (first | simp (maxSteps := 5000000) (implicitDefEqProofs := false) only [ruA, ruB, aEv, aTake, aLoad, aField, aLen, aUn, un1, ASt.get, aget, ASt.put, ↓reduceIte, reduceCtorEq, Nat.reduceLT, Nat.reduceEqDiff, Nat.reduceAdd, Nat.reduceLeDiff, eq_self, ne_eq, dref, tyF_77_1, tyA_3, tyS_3, tyF_32_6, tyA_27, tyS_27, tyE_27] | (with_reducible refine aIf_split (fun _ => ?_) (fun _ => ?_)) | (with_reducible refine aSel_split (fun _ => ?_) (fun _ => ?_)) | (with_reducible refine aGd_split (fun _ => ?_) (fun _ => ?_))))
        refine callD (in18_A _ _) ?_
        (repeat' (first | simp (maxSteps := 5000000) (implicitDefEqProofs := false) only [ruA, ruB, aEv, aTake, aLoad, aField, aIndex, aLen, aUn, un1, ASt.get, aget, ASt.put, ↓reduceIte, reduceCtorEq, Nat.reduceLT, Nat.reduceEqDiff, Nat.reduceAdd, Nat.reduceLeDiff, eq_self, ne_eq, dref, tyF_77_1, tyA_3, tyS_3, tyF_32_4, tyA_25, tyS_25, tyE_25, tyF_32_6, tyA_27, tyS_27, tyE_27, tyF_57_0, row_at, hk, ei] | (with_reducible refine aIf_split (fun _ => ?_) (fun _ => ?_)) | (with_reducible refine aSel_split (fun _ => ?_) (fun _ => ?_)) | (with_reducible refine aGd_split (fun _ => ?_) (fun _ => ?_))))
        refine callD (in18_A _ _) ?_
        (repeat' (first | simp (maxSteps := 5000000) (implicitDefEqProofs := false) only [ruA, ruB, aEv, aTake, aLoad, ASt.get, aget, ASt.put, aStore, aCells, oneC, oneCL, Value.oneCell', aResL, aOne, ↓reduceIte, Nat.reduceLT, Nat.reduceEqDiff, Nat.reduceAdd, eq_self, tyA_47, tyS_47, es] | (with_reducible refine aIf_split (fun _ => ?_) (fun _ => ?_)) | (with_reducible refine aSel_split (fun _ => ?_) (fun _ => ?_)) | (with_reducible refine aGd_split (fun _ => ?_) (fun _ => ?_))))
        exact gives_tree (by simp [AV.ren, AV.renL])
    · have ei : inB xn (m.guards.length : Int) = false := by unfold inB; rw [Bool.and_eq_false_iff]; simp only [decide_eq_false_iff_not]; omega
      have eR : fireM m s (false, xn) = s := by
        have : sentryM m (false, xn) = none := by
          simp only [sentryM, Bool.false_eq_true, if_false]
          split
          · rw [List.getElem?_eq_none (by omega)]; try rfl
          · rfl
        simp [fireM, this]
      rw [eR]
      (repeat' (first | simp (maxSteps := 5000000) (implicitDefEqProofs := false) only [ruA, ruB, aEv, aTake, aLoad, aField, ASt.get, aget, ASt.put, aBox, aCells, oneC, oneCL, Value.cells, Value.oneCell', envOf, ↓reduceIte, reduceCtorEq, Nat.reduceLT, Nat.reduceEqDiff, Nat.reduceAdd, Nat.reduceLeDiff, eq_self, tyZ_47, tyF_77_0, tyA_4, tyS_4] | (with_reducible refine aIf_split (fun _ => ?_) (fun _ => ?_)) | (with_reducible refine aSel_split (fun _ => ?_) (fun _ => ?_)) | (with_reducible refine aGd_split (fun _ => ?_) (fun _ => ?_))))
      refine aDraw_quiet (by kernel_rfl) ?_
      (repeat' (first | simp (maxSteps := 5000000) (implicitDefEqProofs := false) only [ruA, ruB, aEv, aTake, aLoad, aField, aLen, aUn, un1, ASt.get, aget, ASt.put, ↓reduceIte, reduceCtorEq, Nat.reduceLT, Nat.reduceEqDiff, Nat.reduceAdd, Nat.reduceLeDiff, eq_self, ne_eq, dref, tyF_77_1, tyA_3, tyS_3, tyF_32_6, tyA_27, tyS_27, tyE_27] | (with_reducible refine aIf_split (fun _ => ?_) (fun _ => ?_)) | (with_reducible refine aSel_split (fun _ => ?_) (fun _ => ?_)) | (with_reducible refine aGd_split (fun _ => ?_) (fun _ => ?_))))
      refine callD (in18_A _ _) ?_
      (repeat' (first | simp (maxSteps := 5000000) (implicitDefEqProofs := false) only [ruA, ruB, aEv, aTake, aLoad, ASt.get, aget, ASt.put, aStore, aCells, oneC, oneCL, Value.oneCell', aResL, aOne, ↓reduceIte, Nat.reduceLT, Nat.reduceEqDiff, Nat.reduceAdd, eq_self, tyA_47, tyS_47, ei] | (with_reducible refine aIf_split (fun _ => ?_) (fun _ => ?_)) | (with_reducible refine aSel_split (fun _ => ?_) (fun _ => ?_)) | (with_reducible refine aGd_split (fun _ => ?_) (fun _ => ?_))))
      exact gives_tree (by simp [AV.ren, AV.renL])
theorem fire_31 (m : Mod) (s : St) (x : Bool × Int) (h : in31 s.opn ∧ in31 s.don) : in31 (fireM m s x).opn ∧ in31 (fireM m s x).don := by
  unfold fireM
  split
  · split
    · split
      · exact ⟨fold_31 _ _ h.1, withB_31 _ _⟩
      · exact ⟨withB_31 _ _, undo_31 _ _ _ h.2 _⟩
    · exact h
  · exact h
theorem turn_31 (m : Mod) (event : Int) (s : St) (x : Bool × Int) (h : in31 s.opn ∧ in31 s.don) : in31 (turnM m event s x).opn ∧ in31 (turnM m event s x).don := by
  unfold turnM
  split
  · exact fire_31 m s x h
  · exact h
theorem turns_31 (m : Mod) (event : Int) : ∀ (l : List (Bool × Int)) (s : St), in31 s.opn ∧ in31 s.don → in31 (l.foldl (turnM m event) s).opn ∧ in31 (l.foldl (turnM m event) s).don
  | [], s, h => h
  | x :: l, s, h => turns_31 m event l _ (turn_31 m event s x h)
theorem stOk (s : St) : (⟨.agg (eSt s), [], 0⟩ : Res).Ok := ⟨fun id o h => (by cases h), ⟨trivial, trivial, trivial, trivial, trivial, trivial⟩⟩
set_option maxRecDepth 100000 in
set_option maxHeartbeats 4000000 in
theorem pass18_A (m : Mod) (s : St) (event : Int) (hf : Fit m) (hp : ∀ p ∈ m.stages, ok64 p.2) (ho : in31 s.opn) (hd : in31 s.don) : ADet Tryz.prog 22 [.agg (eMod m), .agg (eSt s), eI event] ⟨.agg (eSt (passM m event s m.order.length)), [], 0⟩ := by
  refine adet_of_code mixedT Tryz.func22 rfl (by decide) Tryz.ntmps22 Tryz.results22 rfl (stOk _) ?_
  (repeat' (first | simp (maxSteps := 5000000) (implicitDefEqProofs := false) only [ruA, ruB, aEv, ASt.get, aget, ASt.put, aBox, aCells, oneC, oneCL, Value.cells, Value.oneCell', envOf, ↓reduceIte, Nat.reduceLT, Nat.reduceEqDiff, Nat.reduceAdd, eq_self, tyZ_47] | (with_reducible refine aIf_split (fun _ => ?_) (fun _ => ?_)) | (with_reducible refine aSel_split (fun _ => ?_) (fun _ => ?_)) | (with_reducible refine aGd_split (fun _ => ?_) (fun _ => ?_))))
  have hol : m.order.length ≤ 40 := hf.sizes.2.2.2.2.2.2.2.2.1
  have e0 : passM m event s 0 = s := rfl
  refine aLoop_of (fun s' => ∃ k : Nat, k ≤ m.order.length ∧ s' = ⟨33, [(2, eI event), (3, .op 0 0 0), (4, .op 1 0 0), (6, .op 2 0 0), (7, eI (k : Int))], [(0, some (.box 32 (eMod m))), (1, some (.box 47 (eSt (passM m event s k)))), (2, some (.box 47 [.c (.slice none 0 0), eI 0, eI 0, .c (.slice none 0 0), .c (.slice none 0 0)]))], 3⟩) (fun st => m.order.length - slotN st 7) ⟨_, (weak_cut1 (by (first | ((simp only [envIn, tabIn, envLt, tabLt, AObj.lt, AV.lt, AV.ltL, ruW, ASt.get, aget, ↓reduceIte, reduceCtorEq, Nat.reduceLT, Nat.reduceEqDiff, eq_self, e0]) <;> (repeat' apply And.intro) <;> first | (rw [wrapK (by omega)]; done) | (simp; done) | omega) | fail))), 0, Nat.zero_le _, rfl⟩ ?_
  rintro _ ⟨k, hk, rfl⟩
  by_cases hlt : k < m.order.length
  · have ef : passM m event s (k + 1) = turnM m event (passM m event s k) m.order[k] := fold_snoc _ _ _ hlt
    have hv := turns_31 m event (m.order.take k) s ⟨ho, hd⟩
    change in31 (passM m event s k).opn ∧ in31 (passM m event s k).don at hv
    (repeat' (first | simp (maxSteps := 5000000) (implicitDefEqProofs := false) only [ruA, ruB, aEv, aTake, aLoad, aField, aLen, aBin, bin2, ASt.get, aget, ASt.put, ↓reduceIte, reduceCtorEq, Nat.reduceLT, Nat.reduceEqDiff, eq_self, ne_eq, tyF_32_9, tyA_30, tyS_30, tyE_30, hlt] | (with_reducible refine aIf_split (fun _ => ?_) (fun _ => ?_)) | (with_reducible refine aSel_split (fun _ => ?_) (fun _ => ?_)) | (with_reducible refine aGd_split (fun _ => ?_) (fun _ => ?_))))
    generalize passM m event s k = t at ef hv ⊢
    refine aDraw_quiet (by kernel_rfl) ?_
    obtain ⟨x, hx⟩ : ∃ x, m.order[k] = x := ⟨_, rfl⟩
    rw [hx] at ef
    (repeat' (first | simp (maxSteps := 5000000) (implicitDefEqProofs := false) only [ruA, ruB, aEv, aTake, aLoad, aField, aIndex, ASt.get, aget, ASt.put, ↓reduceIte, reduceCtorEq, Nat.reduceLT, Nat.reduceEqDiff, Nat.reduceAdd, eq_self, dref, dref1, tyA_47, tyS_47, tyF_32_9, tyA_30, tyS_30, tyE_30, tyA_32, tyS_32, tyA_77, tyS_77, row_at, hlt, hx] | (with_reducible refine aIf_split (fun _ => ?_) (fun _ => ?_)) | (with_reducible refine aSel_split (fun _ => ?_) (fun _ => ?_)) | (with_reducible refine aGd_split (fun _ => ?_) (fun _ => ?_))))
    refine callD (fires18_A m t x.1 x.2 event hf (in31_ok hv.1) (in31_ok hv.2)) ?_
    (repeat' (first | simp (maxSteps := 5000000) (implicitDefEqProofs := false) only [ruA, ruB, aEv, aBin, bin2, ASt.get, aget, ASt.put, ↓reduceIte, Nat.reduceLT, Nat.reduceEqDiff, eq_self] | (with_reducible refine aIf_split (fun _ => ?_) (fun _ => ?_)) | (with_reducible refine aSel_split (fun _ => ?_) (fun _ => ?_)) | (with_reducible refine aGd_split (fun _ => ?_) (fun _ => ?_))))
    · rename_i h
      have e1 : turnM m event t x = fireM m t x := if_pos h
      rw [e1] at ef
      refine aDraw_tail 7 (by kernel_rfl) ?_
      (repeat' (first | simp (maxSteps := 5000000) (implicitDefEqProofs := false) only [ruA, ruB, aEv, aTake, aLoad, aField, aIndex, ASt.get, aget, ASt.put, ↓reduceIte, reduceCtorEq, Nat.reduceLT, Nat.reduceEqDiff, Nat.reduceAdd, eq_self, tyA_47, tyS_47, tyF_32_9, tyA_30, tyS_30, tyE_30, tyA_32, tyS_32, tyA_77, tyS_77, row_at, hlt, hx] | (with_reducible refine aIf_split (fun _ => ?_) (fun _ => ?_)) | (with_reducible refine aSel_split (fun _ => ?_) (fun _ => ?_)) | (with_reducible refine aGd_split (fun _ => ?_) (fun _ => ?_))))
      refine callT (fire18_A m t x.1 x.2 hf hp hv.1 hv.2) (.inl (by simp [roL, roA, treeL, treeC])) ?_
      (repeat' (first | simp (maxSteps := 5000000) (implicitDefEqProofs := false) only [ruA, ruB, aEv, aBin, bin2, ASt.get, aget, ASt.put, aStore, aCells, oneC, oneCL, Value.oneCell', ↓reduceIte, Nat.reduceLT, Nat.reduceEqDiff, Nat.reduceAdd, eq_self, AV.shift, AV.shiftL, tyS_47] | (with_reducible refine aIf_split (fun _ => ?_) (fun _ => ?_)) | (with_reducible refine aSel_split (fun _ => ?_) (fun _ => ?_)) | (with_reducible refine aGd_split (fun _ => ?_) (fun _ => ?_))))
      exact roundI (weak_cut1 (by (first | ((simp only [envIn, tabIn, envLt, tabLt, AObj.lt, AV.lt, AV.ltL, ruW, ASt.get, aget, ↓reduceIte, reduceCtorEq, Nat.reduceLT, Nat.reduceEqDiff, eq_self, ef]) <;> (repeat' apply And.intro) <;> first | (rw [wrapK (by omega)]; done) | (simp; done) | omega) | fail))) ⟨k + 1, by omega, rfl⟩ (by simp only [slotN, ruW, ASt.get, aget, ↓reduceIte, Nat.reduceLT, Nat.reduceEqDiff, eq_self]; omega)
    · rename_i h
      have e1 : turnM m event t x = t := if_neg (by rw [show (x : Bool × Int) = (x.1, x.2) from rfl, h]; simp)
      rw [e1] at ef
      exact roundI (weak_cut1 (by (first | ((simp only [envIn, tabIn, envLt, tabLt, AObj.lt, AV.lt, AV.ltL, ruW, ASt.get, aget, ↓reduceIte, Nat.reduceLT, Nat.reduceEqDiff, eq_self, ef]) <;> (repeat' apply And.intro) <;> first | (rw [wrapK (by omega)]; done) | (simp; done) | omega) | fail))) ⟨k + 1, by omega, rfl⟩ (by simp only [slotN, ruW, ASt.get, aget, ↓reduceIte, Nat.reduceLT, Nat.reduceEqDiff, eq_self]; omega)
  · obtain rfl : k = m.order.length := by omega
    (repeat' (first | simp (maxSteps := 5000000) (implicitDefEqProofs := false) only [ruA, ruB, aEv, aTake, aLoad, aField, aLen, aBin, bin2, ASt.get, aget, ASt.put, aStore, aCells, oneC, oneCL, Value.oneCell', aResL, aOne, ↓reduceIte, reduceCtorEq, Nat.reduceLT, Nat.reduceEqDiff, Nat.reduceAdd, eq_self, ne_eq, tyA_47, tyS_47, tyF_32_9, tyA_30, tyS_30, tyE_30, hlt] | (with_reducible refine aIf_split (fun _ => ?_) (fun _ => ?_)) | (with_reducible refine aSel_split (fun _ => ?_) (fun _ => ?_)) | (with_reducible refine aGd_split (fun _ => ?_) (fun _ => ?_))))
    exact gives_tree (by simp only [AV.ren, AV.renL])
end
section
open Go.RowKit
def allN (f : Nat → Bool) : Nat → Bool
  | 0 => true
  | n + 1 => allN f n && f n
def anyN (f : Nat → Bool) : Nat → Bool
  | 0 => false
  | n + 1 => anyN f n || f n
theorem allN_iff (f : Nat → Bool) : ∀ n, allN f n = true ↔ ∀ i, i < n → f i = true
  | 0 => by simp [allN]
  | n + 1 => by
    rw [allN, Bool.and_eq_true, allN_iff f n]
    constructor
    · intro ⟨h1, h2⟩ i hi
      rcases Nat.lt_or_ge i n with h | h
      · exact h1 i h
      · obtain rfl : i = n := by omega
        exact h2
    · exact fun h => ⟨fun i hi => h i (by omega), h n (by omega)⟩
theorem anyN_iff (f : Nat → Bool) : ∀ n, anyN f n = true ↔ ∃ i, i < n ∧ f i = true
  | 0 => by simp [anyN]
  | n + 1 => by
    rw [anyN, Bool.or_eq_true, anyN_iff f n]
    constructor
    · rintro (⟨i, h1, h2⟩ | h)
      · exact ⟨i, by omega, h2⟩
      · exact ⟨n, by omega, h⟩
    · rintro ⟨i, h1, h2⟩
      rcases Nat.lt_or_ge i n with h | h
      · exact .inl ⟨i, h, h2⟩
      · obtain rfl : i = n := by omega
        exact .inr h2
theorem allN_no {f : Nat → Bool} {k n : Nat} (hk : k < n) (h : f k = false) : allN f n = false := by
  rw [Bool.eq_false_iff]
  intro h2
  rw [(allN_iff f n).1 h2 k hk] at h
  cases h
theorem anyN_yes {f : Nat → Bool} {k n : Nat} (hk : k < n) (h : f k = true) : anyN f n = true := (anyN_iff f n).2 ⟨k, hk, h⟩
theorem allN_step {f : Nat → Bool} {k : Nat} (h1 : allN f k = true) (h : f k = true) : allN f (k + 1) = true := by simp [allN, h1, h]
theorem anyN_step {f : Nat → Bool} {k : Nat} (h1 : anyN f k = false) (h : f k = false) : anyN f (k + 1) = false := by simp [anyN, h1, h]
/-- the set of so many -/
def firstI (n : Int) : Int := 2 ^ (max 0 (min n 31)).toNat - 1
theorem first_A (n : Int) : ADet Tryz.prog 92 [eI n] (val (.int .i64 (firstI n))) := by
  refine adet_of_code mixedT Tryz.func92 rfl (by decide) Tryz.ntmps92 Tryz.results92 rfl (val_ok _) ?_
  have h0 : ¬ (max 0 (min n 31) < 0) := by omega
  have h2 : (max 0 (min n 31)).toNat ≤ 31 := by omega
  have h1 : min (max 0 (min n 31)).toNat IntKind.i64.bits = (max 0 (min n 31)).toNat := by
    have : IntKind.i64.bits = 64 := rfl
    omega
  have hp : (1 : Int) ≤ 2 ^ (max 0 (min n 31)).toNat ∧ (2 : Int) ^ (max 0 (min n 31)).toNat ≤ 2147483648 := by
    have h3 : 2 ^ (max 0 (min n 31)).toNat ≤ 2 ^ 31 := Nat.pow_le_pow_right (by omega) h2
    have h4 : 1 ≤ 2 ^ (max 0 (min n 31)).toNat := Nat.one_le_two_pow
    have e : (2 : Int) ^ (max 0 (min n 31)).toNat = ((2 ^ (max 0 (min n 31)).toNat : Nat) : Int) := by simp
    rw [e]
    omega
  have w1 : IntKind.i64.wrap (1 * 2 ^ (max 0 (min n 31)).toNat) = 2 ^ (max 0 (min n 31)).toNat := by
    rw [Int.one_mul]
    exact wrap_in (by omega) (by omega)
  have w2 : IntKind.i64.wrap (2 ^ (max 0 (min n 31)).toNat - 1) = 2 ^ (max 0 (min n 31)).toNat - 1 := wrap_in (by omega) (by omega)
  unfold firstI
  (repeat' (first | simp (maxSteps := 5000000) (implicitDefEqProofs := false) only [ruA, aEv, aBin, bin2, ASt.get, aget, ASt.put, envOf, aResL, aOne, ↓reduceIte, reduceCtorEq, Nat.reduceLT, eq_self, aMM, h0, h1, w1, w2] | (with_reducible refine aIf_split (fun _ => ?_) (fun _ => ?_)) | (with_reducible refine aSel_split (fun _ => ?_) (fun _ => ?_)) | (with_reducible refine aGd_split (fun _ => ?_) (fun _ => ?_))))
def ofB (s n : Int) : Bool := decide (0 ≤ s) && decide (s ≤ firstI n)
theorem of_A (s n : Int) : ADet Tryz.prog 74 [eI s, eI n] (val (.bool (ofB s n))) := by
  refine adet_of_code mixedT Tryz.func74 rfl (by decide) Tryz.ntmps74 Tryz.results74 rfl (val_ok _) ?_
  unfold ofB
  (repeat' (first | simp (maxSteps := 5000000) (implicitDefEqProofs := false) only [ruA, ruB, aEv, aBin, bin2, ASt.get, aget, ASt.put, envOf, aResL, aOne, ↓reduceIte, reduceCtorEq, Nat.reduceLT, Nat.reduceEqDiff, eq_self] | (with_reducible refine aIf_split (fun _ => ?_) (fun _ => ?_)) | (with_reducible refine aSel_split (fun _ => ?_) (fun _ => ?_)) | (with_reducible refine aGd_split (fun _ => ?_) (fun _ => ?_)) | (with_reducible refine aDraw_quiet (by kernel_rfl) ?_) | ((with_reducible apply callV (g := 92)); exact (first_A _)) | ((with_reducible apply callD (g := 92)); exact (first_A _))))
  all_goals simp [*]
def chkAt (m : Mod) (s : St) (i : Nat) : Bool := ofB (s.did.getD i 0) m.users.length && decide (0 ≤ s.cnt.getD i 0) && decide (s.cnt.getD i 0 ≤ (m.events[i]?.map (·.times)).getD 0)
def chkS (m : Mod) (s : St) : Bool := decide (s.vals.length = m.attrs.length) && decide (s.did.length = m.events.length) && decide (s.cnt.length = m.events.length) && ofB s.opn m.stages.length && ofB s.don m.miles.length && allN (chkAt m s) m.events.length
set_option maxRecDepth 100000 in
set_option maxHeartbeats 8000000 in
theorem checkS_A (m : Mod) (s : St) (hl : m.events.length ≤ 1000000) : ADet Tryz.prog 56 [.agg (eMod m), .agg (eSt s)] (val (.bool (chkS m s))) := by
  refine adet_of_code mixedT Tryz.func56 rfl (by decide) Tryz.ntmps56 Tryz.results56 rfl (val_ok _) ?_
  (repeat' (first | simp (maxSteps := 5000000) (implicitDefEqProofs := false) only [ruA, ruB, aEv, aTake, aLoad, aField, aLen, aBin, bin2, aUn, un1, ASt.get, aget, ASt.put, aBox, aCells, oneC, oneCL, Value.oneCell', envOf, aResL, aOne, ↓reduceIte, reduceCtorEq, Nat.reduceLT, Nat.reduceEqDiff, Nat.reduceAdd, Nat.reduceLeDiff, eq_self, ne_eq, tyF_32_5, tyA_26, tyS_26, tyE_26, tyF_47_0, tyA_23, tyS_23, tyE_23, tyF_32_0, tyA_22, tyS_22, tyE_22, tyF_47_3, tyA_45, tyS_45, tyE_45, tyF_47_4, tyF_47_1, tyA_3, tyS_3, tyF_32_4, tyA_25, tyS_25, tyE_25, tyF_47_2, tyF_32_7, tyA_28, tyS_28, tyE_28] | (with_reducible refine aIf_split (fun _ => ?_) (fun _ => ?_)) | (with_reducible refine aSel_split (fun _ => ?_) (fun _ => ?_)) | (with_reducible refine aGd_split (fun _ => ?_) (fun _ => ?_)) | (with_reducible refine aDraw_quiet (by kernel_rfl) ?_) | ((with_reducible apply callV (g := 74)); exact (of_A _ _)) | ((with_reducible apply callD (g := 74)); exact (of_A _ _))))
  all_goals first
    | (symm; unfold chkS; grind)
    | skip
  rename_i h1 h2 h3 h4 h5
  have h2 : s.did.length = m.events.length := by simp at h2; omega
  have h3 : s.cnt.length = m.events.length := by simp at h3; omega
  have hall : chkS m s = allN (chkAt m s) m.events.length := by unfold chkS; grind
  rw [hall]
  refine aLoop_of (fun st => ∃ k : Nat, k ≤ m.events.length ∧ allN (chkAt m s) k = true ∧ st = ⟨87, [(2, .op 0 0 0), (3, .op 1 0 0), (51, .sl 5 (m.events.map eEv)), (52, eI (m.events.length : Int)), (53, eI (k : Int))], [(0, some (.box 32 (eMod m))), (1, some (.box 47 (eSt s)))], 2⟩) (fun st => m.events.length - slotN st 53) ⟨_, (weak_cut1 (by (first | ((simp only [envIn, tabIn, envLt, tabLt, AObj.lt, AV.lt, AV.ltL, ruW, ASt.get, aget, ↓reduceIte, reduceCtorEq, Nat.reduceLT, Nat.reduceEqDiff, eq_self]) <;> (repeat' apply And.intro) <;> first | (rw [wrapK (by omega)]; done) | (simp; done) | omega) | fail))), 0, Nat.zero_le _, rfl, rfl⟩ ?_
  rintro _ ⟨k, hk, hI, rfl⟩
  by_cases hlt : k < m.events.length
  · have hd : k < s.did.length := by omega
    have hc : k < s.cnt.length := by omega
    have eF : chkAt m s k = (ofB s.did[k] m.users.length && decide (0 ≤ s.cnt[k]) && decide (s.cnt[k] ≤ m.events[k].times)) := by simp [chkAt, hd, hc, hlt]
    (repeat' (first | simp (maxSteps := 5000000) (implicitDefEqProofs := false) only [ruA, ruB, aEv, aTake, aLoad, aField, aIndex, aLen, aBin, bin2, aUn, un1, ASt.get, aget, ASt.put, aStore, aBox, aCells, oneC, oneCL, Value.cells, Value.oneCell', aResL, aOne, ↓reduceIte, reduceCtorEq, Nat.reduceLT, Nat.reduceEqDiff, Nat.reduceAdd, Nat.reduceLeDiff, eq_self, ne_eq, dref, tyE_26, tyA_22, tyS_22, tyE_22, tyF_47_3, tyA_45, tyS_45, tyE_45, tyF_47_4, tyA_3, tyS_3, tyA_61, tyS_61, tyZ_61, tyF_32_2, tyF_61_4, row_at, hlt, hd, hc] | (with_reducible refine aIf_split (fun _ => ?_) (fun _ => ?_)) | (with_reducible refine aSel_split (fun _ => ?_) (fun _ => ?_)) | (with_reducible refine aGd_split (fun _ => ?_) (fun _ => ?_)) | (with_reducible refine aDraw_quiet (by kernel_rfl) ?_) | ((with_reducible apply callV (g := 74)); exact (of_A _ _)) | ((with_reducible apply callD (g := 74)); exact (of_A _ _))))
    all_goals first
      | (symm; refine allN_no hlt ?_; rw [eF]; grind)
      | exact roundI (weak_cut1 (by (first | ((simp only [envIn, tabIn, envLt, tabLt, AObj.lt, AV.lt, AV.ltL, ruW, ASt.get, aget, ↓reduceIte, reduceCtorEq, Nat.reduceLT, Nat.reduceEqDiff, eq_self]) <;> (repeat' apply And.intro) <;> first | (rw [wrapK (by omega)]; done) | (simp; done) | omega) | fail))) ⟨k + 1, by omega, allN_step hI (by rw [eF]; grind), rfl⟩ (by simp only [slotN, ruW, ASt.get, aget, ↓reduceIte, Nat.reduceLT, Nat.reduceEqDiff, eq_self]; omega)
  · obtain rfl : k = m.events.length := by omega
    (repeat' (first | simp (maxSteps := 5000000) (implicitDefEqProofs := false) only [ruA, ruB, aEv, aBin, bin2, ASt.get, aget, ASt.put, aResL, aOne, ↓reduceIte, Nat.reduceLT, Nat.reduceEqDiff, eq_self, hlt] | (with_reducible refine aIf_split (fun _ => ?_) (fun _ => ?_)) | (with_reducible refine aSel_split (fun _ => ?_) (fun _ => ?_)) | (with_reducible refine aGd_split (fun _ => ?_) (fun _ => ?_)) | (with_reducible refine aDraw_quiet (by kernel_rfl) ?_)))
    exact hI.symm
def completeAt (m : Mod) (s : St) (k : Nat) : Bool := (m.miles[k]?.map (·.final)).getD false && hasB s.don (k : Int)
def completeM (m : Mod) (s : St) : Bool := anyN (completeAt m s) m.miles.length
set_option maxRecDepth 100000 in
theorem complete_A (m : Mod) (s : St) (hl : m.miles.length ≤ 1000000) : ADet Tryz.prog 94 [.agg (eMod m), .agg (eSt s)] (val (.bool (completeM m s))) := by
  refine adet_of_code mixedT Tryz.func94 rfl (by decide) Tryz.ntmps94 Tryz.results94 rfl (val_ok _) ?_
  (repeat' (first | simp (maxSteps := 5000000) (implicitDefEqProofs := false) only [ruA, ruB, aEv, aTake, aLoad, aField, aLen, ASt.get, aget, ASt.put, aBox, aCells, oneC, oneCL, Value.oneCell', envOf, ↓reduceIte, reduceCtorEq, Nat.reduceLT, Nat.reduceEqDiff, Nat.reduceAdd, Nat.reduceLeDiff, eq_self, ne_eq, tyF_32_7, tyA_28, tyS_28, tyE_28] | (with_reducible refine aIf_split (fun _ => ?_) (fun _ => ?_)) | (with_reducible refine aSel_split (fun _ => ?_) (fun _ => ?_)) | (with_reducible refine aGd_split (fun _ => ?_) (fun _ => ?_)) | (with_reducible refine aDraw_quiet (by kernel_rfl) ?_)))
  unfold completeM
  refine aLoop_of (fun st => ∃ k : Nat, k ≤ m.miles.length ∧ anyN (completeAt m s) k = false ∧ st = ⟨24, [(2, .op 0 0 0), (3, .op 1 0 0), (8, .sl 5 (m.miles.map eMl)), (9, eI (m.miles.length : Int)), (10, eI (k : Int))], [(0, some (.box 32 (eMod m))), (1, some (.box 47 (eSt s)))], 2⟩) (fun st => m.miles.length - slotN st 10) ⟨_, (weak_cut1 (by (first | ((simp only [envIn, tabIn, envLt, tabLt, AObj.lt, AV.lt, AV.ltL, ruW, ASt.get, aget, ↓reduceIte, reduceCtorEq, Nat.reduceLT, Nat.reduceEqDiff, eq_self]) <;> (repeat' apply And.intro) <;> first | (rw [wrapK (by omega)]; done) | (simp; done) | omega) | fail))), 0, Nat.zero_le _, rfl, rfl⟩ ?_
  rintro _ ⟨k, hk, hI, rfl⟩
  by_cases hlt : k < m.miles.length
  · have eF : completeAt m s k = (m.miles[k].final && hasB s.don (k : Int)) := by simp [completeAt, hlt]
    (repeat' (first | simp (maxSteps := 5000000) (implicitDefEqProofs := false) only [ruA, ruB, aEv, aTake, aLoad, aField, aIndex, aBin, bin2, ASt.get, aget, ASt.put, aStore, aBox, aCells, oneC, oneCL, Value.cells, Value.oneCell', aResL, aOne, ↓reduceIte, reduceCtorEq, Nat.reduceLT, Nat.reduceEqDiff, Nat.reduceAdd, Nat.reduceLeDiff, eq_self, tyE_28, tyA_59, tyS_59, tyZ_59, tyF_59_4, tyA_4, tyS_4, tyF_47_2, tyA_3, tyS_3, row_at, hlt] | (with_reducible refine aIf_split (fun _ => ?_) (fun _ => ?_)) | (with_reducible refine aSel_split (fun _ => ?_) (fun _ => ?_)) | (with_reducible refine aGd_split (fun _ => ?_) (fun _ => ?_)) | (with_reducible refine aDraw_quiet (by kernel_rfl) ?_) | ((with_reducible apply callV (g := 84)); exact (has_A _ _)) | ((with_reducible apply callD (g := 84)); exact (has_A _ _))))
    all_goals first
      | (symm; refine anyN_yes hlt ?_; rw [eF]; grind)
      | exact roundI (weak_cut1 (by (first | ((simp only [envIn, tabIn, envLt, tabLt, AObj.lt, AV.lt, AV.ltL, ruW, ASt.get, aget, ↓reduceIte, reduceCtorEq, Nat.reduceLT, Nat.reduceEqDiff, eq_self]) <;> (repeat' apply And.intro) <;> first | (rw [wrapK (by omega)]; done) | (simp; done) | omega) | fail))) ⟨k + 1, by omega, anyN_step hI (by rw [eF]; grind), rfl⟩ (by simp only [slotN, ruW, ASt.get, aget, ↓reduceIte, Nat.reduceLT, Nat.reduceEqDiff, eq_self]; omega)
  · obtain rfl : k = m.miles.length := by omega
    (repeat' (first | simp (maxSteps := 5000000) (implicitDefEqProofs := false) only [ruA, ruB, aEv, aBin, bin2, ASt.get, aget, ASt.put, aResL, aOne, ↓reduceIte, Nat.reduceLT, Nat.reduceEqDiff, eq_self, hlt] | (with_reducible refine aIf_split (fun _ => ?_) (fun _ => ?_)) | (with_reducible refine aSel_split (fun _ => ?_) (fun _ => ?_)) | (with_reducible refine aGd_split (fun _ => ?_) (fun _ => ?_)) | (with_reducible refine aDraw_quiet (by kernel_rfl) ?_)))
    exact hI.symm
def atI (l : List Int) (i : Int) : Int := if 0 ≤ i ∧ i < (l.length : Int) then l.getD i.toNat 0 else 0
theorem at_A (l : List Int) (i : Int) : ADet Tryz.prog 96 [sI l, eI i] (val (.int .i64 (atI l i))) := by
  refine adet_of_code mixedT Tryz.func96 rfl (by decide) Tryz.ntmps96 Tryz.results96 rfl (val_ok _) ?_
  unfold atI
  by_cases h : 0 ≤ i ∧ i < (l.length : Int)
  · obtain ⟨k, rfl⟩ : ∃ k : Nat, i = (k : Int) := ⟨i.toNat, by omega⟩
    have hk : k < l.length := by omega
    rw [if_pos h]
    (repeat' (first | simp (maxSteps := 5000000) (implicitDefEqProofs := false) only [ruA, ruB, aEv, aTake, aLoad, aIndex, aLen, aBin, bin2, ASt.get, aget, ASt.put, envOf, aResL, aOne, ↓reduceIte, reduceCtorEq, Nat.reduceLT, Nat.reduceEqDiff, eq_self, ne_eq, tyE_45, tyA_3, tyS_3, row_at, hk] | (with_reducible refine aIf_split (fun _ => ?_) (fun _ => ?_)) | (with_reducible refine aSel_split (fun _ => ?_) (fun _ => ?_)) | (with_reducible refine aGd_split (fun _ => ?_) (fun _ => ?_))))
    all_goals grind
  · rw [if_neg h]
    (repeat' (first | simp (maxSteps := 5000000) (implicitDefEqProofs := false) only [ruA, ruB, aEv, aTake, aLoad, aIndex, aLen, aBin, bin2, ASt.get, aget, ASt.put, envOf, aResL, aOne, ↓reduceIte, reduceCtorEq, Nat.reduceLT, Nat.reduceEqDiff, eq_self, ne_eq, tyE_45, tyA_3, tyS_3] | (with_reducible refine aIf_split (fun _ => ?_) (fun _ => ?_)) | (with_reducible refine aSel_split (fun _ => ?_) (fun _ => ?_)) | (with_reducible refine aGd_split (fun _ => ?_) (fun _ => ?_))))
    rename_i h1 h2
    simp at h1 h2
    omega
def ofR (m : Mod) (role user : Int) : Bool := decide (0 ≤ role) && decide (role < (m.roles.length : Int)) && decide (0 ≤ user) && decide (user < (m.users.length : Int)) && ((m.roles[role.toNat]?).map (fun p => hasB p.2 user)).getD false
theorem ofR_A (m : Mod) (role user : Int) : ADet Tryz.prog 95 [.agg (eMod m), eI role, eI user] (val (.bool (ofR m role user))) := by
  refine adet_of_code mixedT Tryz.func95 rfl (by decide) Tryz.ntmps95 Tryz.results95 rfl (val_ok _) ?_
  by_cases h : 0 ≤ role ∧ role < (m.roles.length : Int)
  · obtain ⟨k, rfl⟩ : ∃ k : Nat, role = (k : Int) := ⟨role.toNat, by omega⟩
    have hk : k < m.roles.length := by omega
    have eR : ofR m k user = (decide (0 ≤ user) && decide (user < (m.users.length : Int)) && hasB m.roles[k].2 user) := by simp [ofR, hk]
    rw [eR]
    (repeat' (first | simp (maxSteps := 5000000) (implicitDefEqProofs := false) only [ruA, ruB, aEv, aTake, aLoad, aField, aIndex, aLen, aBin, bin2, ASt.get, aget, ASt.put, aBox, aCells, oneC, oneCL, envOf, aResL, aOne, ↓reduceIte, reduceCtorEq, Nat.reduceLT, Nat.reduceEqDiff, Nat.reduceAdd, Nat.reduceLeDiff, eq_self, ne_eq, tyF_32_3, tyA_24, tyS_24, tyE_24, tyF_32_2, tyA_22, tyS_22, tyE_22, tyF_98_1, tyA_3, tyS_3, row_at, hk] | (with_reducible refine aIf_split (fun _ => ?_) (fun _ => ?_)) | (with_reducible refine aSel_split (fun _ => ?_) (fun _ => ?_)) | (with_reducible refine aGd_split (fun _ => ?_) (fun _ => ?_)) | (with_reducible refine aDraw_quiet (by kernel_rfl) ?_) | ((with_reducible apply callV (g := 84)); exact (has_A _ _)) | ((with_reducible apply callD (g := 84)); exact (has_A _ _))))
    all_goals grind
  · have eR : ofR m role user = false := by
      have : (decide (0 ≤ role) && decide (role < (m.roles.length : Int))) = false := by
        rw [Bool.and_eq_false_iff]
        simp only [decide_eq_false_iff_not]
        omega
      simp [ofR, this]
    rw [eR]
    (repeat' (first | simp (maxSteps := 5000000) (implicitDefEqProofs := false) only [ruA, ruB, aEv, aTake, aLoad, aField, aIndex, aLen, aBin, bin2, ASt.get, aget, ASt.put, aBox, aCells, oneC, oneCL, envOf, aResL, aOne, ↓reduceIte, reduceCtorEq, Nat.reduceLT, Nat.reduceEqDiff, Nat.reduceAdd, Nat.reduceLeDiff, eq_self, ne_eq, tyF_32_3, tyA_24, tyS_24, tyE_24, tyF_32_2, tyA_22, tyS_22, tyE_22, tyF_98_1, tyA_3, tyS_3] | (with_reducible refine aIf_split (fun _ => ?_) (fun _ => ?_)) | (with_reducible refine aSel_split (fun _ => ?_) (fun _ => ?_)) | (with_reducible refine aGd_split (fun _ => ?_) (fun _ => ?_)) | (with_reducible refine aDraw_quiet (by kernel_rfl) ?_)))
    all_goals first
      | rfl
      | (exfalso; grind)
def apartAt (m : Mod) (s : St) (event user : Int) (k : Nat) : Bool := ((m.sods[k]?).map (fun x => ((x.1 == event) && hasB (atI s.did x.2) user) || ((x.2 == event) && hasB (atI s.did x.1) user))).getD false
def apartM (m : Mod) (s : St) (event user : Int) : Bool := anyN (apartAt m s event user) m.sods.length
set_option maxRecDepth 100000 in
set_option maxHeartbeats 8000000 in
theorem apart_A (m : Mod) (s : St) (event user : Int) (hl : m.sods.length ≤ 1000000) : ADet Tryz.prog 77 [.agg (eMod m), .agg (eSt s), eI event, eI user] (val (.bool (apartM m s event user))) := by
  refine adet_of_code mixedT Tryz.func77 rfl (by decide) Tryz.ntmps77 Tryz.results77 rfl (val_ok _) ?_
  (repeat' (first | simp (maxSteps := 5000000) (implicitDefEqProofs := false) only [ruA, ruB, aEv, aTake, aLoad, aField, aLen, ASt.get, aget, ASt.put, aBox, aCells, oneC, oneCL, Value.oneCell', envOf, ↓reduceIte, reduceCtorEq, Nat.reduceLT, Nat.reduceEqDiff, Nat.reduceAdd, Nat.reduceLeDiff, eq_self, ne_eq, tyF_32_8, tyA_29, tyS_29, tyE_29] | (with_reducible refine aIf_split (fun _ => ?_) (fun _ => ?_)) | (with_reducible refine aSel_split (fun _ => ?_) (fun _ => ?_)) | (with_reducible refine aGd_split (fun _ => ?_) (fun _ => ?_)) | (with_reducible refine aDraw_quiet (by kernel_rfl) ?_)))
  unfold apartM
  refine aLoop_of (fun st => ∃ k : Nat, k ≤ m.sods.length ∧ anyN (apartAt m s event user) k = false ∧ st = ⟨47, [(2, eI event), (3, eI user), (4, .op 0 0 0), (5, .op 1 0 0), (12, .sl 2 (m.sods.map eII)), (13, eI (m.sods.length : Int)), (14, eI (k : Int))], [(0, some (.box 32 (eMod m))), (1, some (.box 47 (eSt s)))], 2⟩) (fun st => m.sods.length - slotN st 14) ⟨_, (weak_cut1 (by (first | ((simp only [envIn, tabIn, envLt, tabLt, AObj.lt, AV.lt, AV.ltL, ruW, ASt.get, aget, ↓reduceIte, reduceCtorEq, Nat.reduceLT, Nat.reduceEqDiff, eq_self]) <;> (repeat' apply And.intro) <;> first | (rw [wrapK (by omega)]; done) | (simp; done) | omega) | fail))), 0, Nat.zero_le _, rfl, rfl⟩ ?_
  rintro _ ⟨k, hk, hI, rfl⟩
  by_cases hlt : k < m.sods.length
  · obtain ⟨⟨a, b⟩, hx⟩ : ∃ x, m.sods[k] = x := ⟨_, rfl⟩
    have ex : eII m.sods[k] = [eI a, eI b] := by rw [hx]
    have eF : apartAt m s event user k = (((a == event) && hasB (atI s.did b) user) || ((b == event) && hasB (atI s.did a) user)) := by simp [apartAt, hlt, hx]
    (repeat' (first | simp (maxSteps := 5000000) (implicitDefEqProofs := false) only [ruA, ruB, aEv, aTake, aLoad, aField, aIndex, aBin, bin2, ASt.get, aget, ASt.put, aStore, aBox, aCells, oneC, oneCL, Value.cells, Value.oneCell', aResL, aOne, ↓reduceIte, reduceCtorEq, Nat.reduceLT, Nat.reduceEqDiff, Nat.reduceAdd, Nat.reduceLeDiff, eq_self, tyE_29, tyA_83, tyS_83, tyZ_83, tyF_83_0, tyA_3, tyS_3, tyF_47_3, tyA_45, tyS_45, tyF_83_1, row_at, hlt, ex] | (with_reducible refine aIf_split (fun _ => ?_) (fun _ => ?_)) | (with_reducible refine aSel_split (fun _ => ?_) (fun _ => ?_)) | (with_reducible refine aGd_split (fun _ => ?_) (fun _ => ?_)) | (with_reducible refine aDraw_quiet (by kernel_rfl) ?_) | ((with_reducible apply callV (g := 84)); exact (has_A _ _)) | ((with_reducible apply callD (g := 84)); exact (has_A _ _)) | ((with_reducible apply callV (g := 96)); exact (at_A _ _)) | ((with_reducible apply callD (g := 96)); exact (at_A _ _))))
    all_goals first
      | (symm; refine anyN_yes hlt ?_; rw [eF]; grind)
      | exact roundI (weak_cut1 (by (first | ((simp only [envIn, tabIn, envLt, tabLt, AObj.lt, AV.lt, AV.ltL, ruW, ASt.get, aget, ↓reduceIte, reduceCtorEq, Nat.reduceLT, Nat.reduceEqDiff, eq_self]) <;> (repeat' apply And.intro) <;> first | (rw [wrapK (by omega)]; done) | (simp; done) | omega) | fail))) ⟨k + 1, by omega, anyN_step hI (by rw [eF]; grind), rfl⟩ (by simp only [slotN, ruW, ASt.get, aget, ↓reduceIte, Nat.reduceLT, Nat.reduceEqDiff, eq_self]; omega)
      | trace_state
  · obtain rfl : k = m.sods.length := by omega
    (repeat' (first | simp (maxSteps := 5000000) (implicitDefEqProofs := false) only [ruA, ruB, aEv, aBin, bin2, ASt.get, aget, ASt.put, aResL, aOne, ↓reduceIte, Nat.reduceLT, Nat.reduceEqDiff, eq_self, hlt] | (with_reducible refine aIf_split (fun _ => ?_) (fun _ => ?_)) | (with_reducible refine aSel_split (fun _ => ?_) (fun _ => ?_)) | (with_reducible refine aGd_split (fun _ => ?_) (fun _ => ?_)) | (with_reducible refine aDraw_quiet (by kernel_rfl) ?_)))
    exact hI.symm
noncomputable def evAt (m : Mod) (event : Int) : Option Ev := if 0 ≤ event then m.events[event.toNat]? else none
noncomputable def freeM (m : Mod) (s : St) (event user : Int) : Bool :=
  match evAt m event with
  | none => false
  | some x => !completeM m s && decide (x.stage < (m.stages.length : Int)) && hasB s.opn x.stage && ofR m x.role user && (decide (x.times ≤ 0) || decide (atI s.cnt event < x.times))
set_option maxRecDepth 100000 in
set_option maxHeartbeats 8000000 in
theorem free_A (m : Mod) (s : St) (event user : Int) (hl : m.miles.length ≤ 1000000) : ADet Tryz.prog 76 [.agg (eMod m), .agg (eSt s), eI event, eI user] (val (.bool (freeM m s event user))) := by
  refine adet_of_code mixedT Tryz.func76 rfl (by decide) Tryz.ntmps76 Tryz.results76 rfl (val_ok _) ?_
  by_cases h : 0 ≤ event ∧ event < (m.events.length : Int)
  · obtain ⟨k, rfl⟩ : ∃ k : Nat, event = (k : Int) := ⟨event.toNat, by omega⟩
    have hk : k < m.events.length := by omega
    obtain ⟨x, hx⟩ : ∃ x, m.events[k] = x := ⟨_, rfl⟩
    have ee : evAt m (k : Int) = some x := by simp [evAt, hk, hx]
    have eR : freeM m s k user = (!completeM m s && decide (x.stage < (m.stages.length : Int)) && hasB s.opn x.stage && ofR m x.role user && (decide (x.times ≤ 0) || decide (atI s.cnt k < x.times))) := by simp only [freeM, ee]
    rw [eR]
    (repeat' (first | simp (maxSteps := 5000000) (implicitDefEqProofs := false) only [ruA, ruB, aEv, aTake, aLoad, aField, aIndex, aLen, aBin, bin2, ASt.get, aget, ASt.put, aStore, aBox, aCells, oneC, oneCL, Value.cells, Value.oneCell', envOf, aResL, aOne, ↓reduceIte, reduceCtorEq, Nat.reduceLT, Nat.reduceEqDiff, Nat.reduceAdd, Nat.reduceLeDiff, eq_self, ne_eq, dref, dref1, tyK_3, tyF_32_5, tyA_26, tyS_26, tyE_26, tyA_32, tyS_32, tyA_47, tyS_47, tyA_61, tyS_61, tyZ_61, tyF_61_2, tyA_3, tyS_3, tyF_32_4, tyA_25, tyS_25, tyE_25, tyF_47_1, tyF_61_1, tyF_61_4, tyF_47_4, tyA_45, tyS_45, row_at, hk, hx] | (with_reducible refine aIf_split (fun _ => ?_) (fun _ => ?_)) | (with_reducible refine aSel_split (fun _ => ?_) (fun _ => ?_)) | (with_reducible refine aGd_split (fun _ => ?_) (fun _ => ?_)) | (with_reducible refine aDraw_quiet (by kernel_rfl) ?_) | ((with_reducible apply callV (g := 84)); exact (has_A _ _)) | ((with_reducible apply callD (g := 84)); exact (has_A _ _)) | ((with_reducible apply callV (g := 94)); exact (complete_A _ _ hl)) | ((with_reducible apply callD (g := 94)); exact (complete_A _ _ hl)) | ((with_reducible apply callV (g := 95)); exact (ofR_A _ _ _)) | ((with_reducible apply callD (g := 95)); exact (ofR_A _ _ _)) | ((with_reducible apply callV (g := 96)); exact (at_A _ _)) | ((with_reducible apply callD (g := 96)); exact (at_A _ _))))
    all_goals first
      | grind
      | trace_state
  · have ee : evAt m event = none := by
      unfold evAt
      split
      · exact List.getElem?_eq_none (by omega)
      · rfl
    have eR : freeM m s event user = false := by simp only [freeM, ee]
    rw [eR]
    (repeat' (first | simp (maxSteps := 5000000) (implicitDefEqProofs := false) only [ruA, ruB, aEv, aTake, aLoad, aField, aIndex, aLen, aBin, bin2, ASt.get, aget, ASt.put, aStore, aBox, aCells, oneC, oneCL, Value.cells, Value.oneCell', envOf, aResL, aOne, ↓reduceIte, reduceCtorEq, Nat.reduceLT, Nat.reduceEqDiff, Nat.reduceAdd, Nat.reduceLeDiff, eq_self, ne_eq, tyF_32_5, tyA_26, tyS_26, tyE_26, tyA_32, tyS_32, tyA_47, tyS_47, tyA_61, tyS_61, tyZ_61] | (with_reducible refine aIf_split (fun _ => ?_) (fun _ => ?_)) | (with_reducible refine aSel_split (fun _ => ?_) (fun _ => ?_)) | (with_reducible refine aGd_split (fun _ => ?_) (fun _ => ?_)) | (with_reducible refine aDraw_quiet (by kernel_rfl) ?_) | ((with_reducible apply callV (g := 94)); exact (complete_A _ _ hl)) | ((with_reducible apply callD (g := 94)); exact (complete_A _ _ hl))))
    all_goals first
      | rfl
      | (exfalso; grind)
noncomputable def enabledM (m : Mod) (s : St) (event user : Int) : Bool := freeM m s event user && !apartM m s event user
set_option maxRecDepth 100000 in
theorem enabled_A (m : Mod) (s : St) (event user : Int) (hl : m.miles.length ≤ 1000000) (hl2 : m.sods.length ≤ 1000000) : ADet Tryz.prog 58 [.agg (eMod m), .agg (eSt s), eI event, eI user] (val (.bool (enabledM m s event user))) := by
  refine adet_of_code mixedT Tryz.func58 rfl (by decide) Tryz.ntmps58 Tryz.results58 rfl (val_ok _) ?_
  unfold enabledM
  (repeat' (first | simp (maxSteps := 5000000) (implicitDefEqProofs := false) only [ruA, ruB, aEv, aTake, aLoad, aUn, un1, ASt.get, aget, ASt.put, aBox, aCells, oneC, oneCL, Value.oneCell', envOf, aResL, aOne, ↓reduceIte, reduceCtorEq, Nat.reduceLT, Nat.reduceEqDiff, Nat.reduceAdd, eq_self, tyA_32, tyS_32, tyA_47, tyS_47] | (with_reducible refine aIf_split (fun _ => ?_) (fun _ => ?_)) | (with_reducible refine aSel_split (fun _ => ?_) (fun _ => ?_)) | (with_reducible refine aGd_split (fun _ => ?_) (fun _ => ?_)) | (with_reducible refine aDraw_quiet (by kernel_rfl) ?_) | ((with_reducible apply callV (g := 76)); exact (free_A _ _ _ _ hl)) | ((with_reducible apply callD (g := 76)); exact (free_A _ _ _ _ hl)) | ((with_reducible apply callV (g := 77)); exact (apart_A _ _ _ _ hl2)) | ((with_reducible apply callD (g := 77)); exact (apart_A _ _ _ _ hl2))))
  all_goals grind
def filtN (f : Nat → Bool) : Nat → List Int
  | 0 => []
  | n + 1 => if f n = true then filtN f n ++ [(n : Int)] else filtN f n
theorem filtN_len (f : Nat → Bool) : ∀ n, (filtN f n).length ≤ n
  | 0 => by simp [filtN]
  | n + 1 => by
    have := filtN_len f n
    unfold filtN
    split
    · simp; omega
    · omega
noncomputable def whoM (m : Mod) (s : St) (event : Int) : List Int := filtN (fun u => enabledM m s event (u : Int)) m.users.length
end
end Go.Proofs.YtfocnmkbnccilaaGreat
