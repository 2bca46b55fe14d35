/-
  Parts of the proof: C2, C3, C4, C5, D5, D6, D7, D8.
-/
import Derived.Test.YtodbhccfajgekaaGreatDoorNtx6
set_option linter.unusedVariables false
set_option linter.unusedSimpArgs false
namespace Go.Proofs.YtodbhccfajgekaaGreatDoor
section
open Go.RowKit

theorem rt_insts {w : World} {S : Nat → Prop} {v : Value} {l : List Inst} (h : RT w S v (sInsts l)) (hl : ∀ x ∈ l, x.ok) : (sliceR instR).one w S v l := by
  obtain ⟨A, cap, rfl, hc, hm, _, hA⟩ := h.sl_inv
  refine ⟨A, cap, by simp, by simpa using hc, hm, fun h0 => ?_⟩
  obtain ⟨b, o, rfl, hb, U, hcell, hr, _⟩ := hA (by simpa using h0)
  refine ⟨b, o, rfl, hb, fun i hi => ⟨l[i].cells, fun j u hu => ?_, rfl, hl _ (List.getElem_mem hi)⟩⟩
  have h1 : (l.map eInst)[i]? = some (eInst l[i]) := by simp [hi]
  have h3 : ∀ (j : Nat) (u : Value), l[i].cells[j]? = some u → (eInst l[i])[j]? = some (AV.c u) := by
    intro j u hu
    unfold Inst.cells at hu
    match j with
    | 0 | 1 | 2 | 3 | 4 | 5 | 6 => simp at hu; subst hu; rfl
    | j + 7 => simp at hu
  have h4 := h3 j u hu
  have h2 := hcell i j _ _ h1 h4
  rw [rtc (hr i j _ _ h1 h4)] at h2
  exact h2
theorem has_A (s i : Int) : ADet Tryz.prog 78 [eI s, eI i] (val (.bool (hasB s i))) :=
  adet_of_calls (enters_of Tryz.func78 rfl (by decide)) fun S w vs hS hn hv => by
    obtain ⟨a, b, rfl⟩ := two_args hn
    obtain rfl := rtc (hv 0 a _ rfl rfl)
    obtain rfl := rtc (hv 1 b _ rfl rfl)
    exact (has_any s i w).mono fun e w' ⟨h1, h2⟩ => ⟨h1, h2 ▸ Below.refl _ _⟩
theorem with_A (s i : Int) : ADet Tryz.prog 64 [eI s, eI i] (val (.int .i64 (withB s i))) :=
  adet_of_calls (enters_of Tryz.func64 rfl (by decide)) fun S w vs hS hn hv => by
    obtain ⟨a, b, rfl⟩ := two_args hn
    obtain rfl := rtc (hv 0 a _ rfl rfl)
    obtain rfl := rtc (hv 1 b _ rfl rfl)
    exact (with_any s i w).mono fun e w' ⟨h1, h2⟩ => ⟨h1, h2 ▸ Below.refl _ _⟩
theorem without_A (s i : Int) : ADet Tryz.prog 67 [eI s, eI i] (val (.int .i64 (withoutB s i))) :=
  adet_of_calls (enters_of Tryz.func67 rfl (by decide)) fun S w vs hS hn hv => by
    obtain ⟨a, b, rfl⟩ := two_args hn
    obtain rfl := rtc (hv 0 a _ rfl rfl)
    obtain rfl := rtc (hv 1 b _ rfl rfl)
    exact (without_any s i w).mono fun e w' ⟨h1, h2⟩ => ⟨h1, h2 ▸ Below.refl _ _⟩
theorem below_A (l : List Int) (i : Int) (hl : l.length ≤ 1073741824) (ho : ∀ x ∈ l, ok64 x) : ADet Tryz.prog 65 [sI l, eI i] (own 3 1 ((belowL l i).map fun n => [eI n])) :=
  adet_of_list (enters_of Tryz.func65 rfl (by decide)) fun S w vs hS hn hv => by
    obtain ⟨a, b, rfl⟩ := two_args hn
    obtain rfl := rtc (hv 1 b _ rfl rfl)
    exact below_any l a i w hl (rt_ints (hv 0 a _ rfl rfl) hS ho)
theorem holds_A (l : List Inst) (s : St) (hl : l.length ≤ 900) (ho : ∀ x ∈ l, x.ok) (hs : ∀ x ∈ s.vals, ok64 x) : ADet Tryz.prog 63 [sInsts l, .agg (eSt s)] ⟨.tup [eB (optB (holdsO l s)), eI (optE (holdsO l s))], [], 0⟩ :=
  ⟨enters_of Tryz.func63 rfl (by decide), fun S w vs hS hn hv => by
    obtain ⟨a, b, rfl⟩ := two_args hn
    have hb := hv 1 b _ rfl rfl
    cases hb with
    | agg xs cs hxn hr =>
      have hx : ∀ j (hj : j < 5), ∃ x, xs[j]? = some x := fun j hj => ⟨_, Array.getElem?_eq_getElem (by simp at hxn; omega)⟩
      obtain ⟨x0, e0⟩ := hx 0 (by omega)
      obtain ⟨x1, e1⟩ := hx 1 (by omega)
      obtain ⟨x2, e2⟩ := hx 2 (by omega)
      obtain ⟨x3, e3⟩ := hx 3 (by omega)
      obtain ⟨x4, e4⟩ := hx 4 (by omega)
      have hxs : xs = #[x0, x1, x2, x3, x4] := by
        apply Array.ext_getElem?
        intro j
        match j with
        | 0 => simpa using e0
        | 1 => simpa using e1
        | 2 => simpa using e2
        | 3 => simpa using e3
        | 4 => simpa using e4
        | j + 5 =>
          rw [Array.getElem?_eq_none (by simp at hxn; omega)]
          simp
      obtain rfl := rtc (hr 1 x1 _ e1 rfl)
      obtain rfl := rtc (hr 2 x2 _ e2 rfl)
      subst hxs
      have h0 := hr 0 x0 _ e0 rfl
      refine (holds_any l s a x0 x3 x4 S (fun b => b < w.heap.size) w (rt_insts (hv 0 a _ rfl rfl) ho) hS hl (rt_ints h0 hS hs) (fun b hb => hb)).mono fun e w' ⟨h1, h2⟩ => ?_
      refine ⟨_, fun _ => undef, _, rfl, ⟨fun id o h => (by cases h), ⟨trivial, trivial, trivial⟩⟩, h1, ⟨belowX h2, fun id o h => (by cases h), fun id id' o o' g h => (by cases h), fun b hb => hb.elim⟩, .tree (.tup _ _ rfl fun j x av h3 h4 => ?_)⟩
      match j with
      | 0 => simp at h3 h4; subst h3; subst h4; exact .c _
      | 1 => simp at h3 h4; subst h3; subst h4; exact .c _
      | j + 2 => simp at h3⟩

/-! ### bstep -/
def sentryM (m : Mod) (x : Bool × Int) : Option (Int × Int × List Inst × Int) :=
  if x.1 = true then (if 0 ≤ x.2 then (m.miles[x.2.toNat]?).map fun K => (K.stage, K.event, K.cond, x.2) else none)
  else (if 0 ≤ x.2 then (m.guards[x.2.toNat]?).map fun g => (g.stage, g.event, g.cond, -1) else none)
def findR (m : Mod) (x : Bool × Int) : Res :=
  match sentryM m x with
  | some (st, ev, cond, mi) => ⟨.tup [.agg [eI st, eI ev, sInsts cond, eI mi], eB (decide (0 ≤ st) && decide (st < m.stages.length))], [], 0⟩
  | none => ⟨.tup [.agg [eI 0, eI 0, .c (.slice none 0 0), eI 0], eB false], [], 0⟩
theorem find_ok (m : Mod) (x : Bool × Int) : (findR m x).Ok := by
  unfold findR
  split <;> exact ⟨fun id o h => (by cases h), ⟨⟨trivial, trivial, trivial, trivial, trivial⟩, trivial, trivial⟩⟩
set_option maxRecDepth 100000 in
set_option maxHeartbeats 4000000 in
theorem find_A (m : Mod) (xm : Bool) (xn : Int) : ADet Tryz.prog 62 [.agg (eMod m), .agg [eB xm, eI xn]] (findR m (xm, xn)) := by
  refine adet_of_code mixedT Tryz.func62 rfl (by decide) Tryz.ntmps62 Tryz.results62 rfl (find_ok m (xm, xn)) ?_
  by_cases h0 : 0 ≤ xn
  · obtain ⟨k, rfl⟩ : ∃ k : Nat, xn = (k : Int) := ⟨xn.toNat, by omega⟩
    cases xm
    · by_cases hk : k < m.guards.length
      · have e : sentryM m (false, (k : Int)) = some (m.guards[k].stage, m.guards[k].event, m.guards[k].cond, -1) := by simp [sentryM, hk]
        have eR : findR m (false, (k : Int)) = ⟨.tup [.agg [eI m.guards[k].stage, eI m.guards[k].event, sInsts m.guards[k].cond, eI (-1)], eB (decide (0 ≤ m.guards[k].stage) && decide (m.guards[k].stage < m.stages.length))], [], 0⟩ := by unfold findR; rw [e]
        rw [eR]
        (repeat' (first | simp (maxSteps := 5000000) (implicitDefEqProofs := false) only [ruA, ruB, aEv, aTake, aLoad, aField, aIndex, aLen, aBin, bin2, aUn, un1, ASt.get, aget, ASt.put, aStore, aBox, aBuild, aFill, oneParts, aCells, oneC, oneCL, Value.cells, Value.oneCell', envOf, ↓reduceIte, reduceCtorEq, Nat.reduceLT, Nat.reduceEqDiff, Nat.reduceAdd, Nat.reduceLeDiff, eq_self, ne_eq, tyS_110, tyZ_110, tyF_98_0, tyA_4, tyS_4, tyF_98_1, tyA_3, tyS_3, tyA_108, tyS_108, tyB_110, tyF_43_6, tyA_38, tyS_38, tyE_38, tyA_137, tyS_137, tyZ_137, tyF_137_0, tyF_137_1, tyF_137_2, row_at, hk] | (with_reducible refine aIf_split (fun _ => ?_) (fun _ => ?_)) | (with_reducible refine aSel_split (fun _ => ?_) (fun _ => ?_)) | (with_reducible refine aGd_split (fun _ => ?_) (fun _ => ?_))))
        refine aDraw_held [2] [0, 1, 2, 3, 4, 5, 6, 7, 8, 9, 10, 11] (.exec 12 (.exec 13 .done)) (by kernel_rfl) (by simp [ATab.get_cons]) ?_
        (repeat' (first | simp (maxSteps := 5000000) (implicitDefEqProofs := false) only [ruA, ruB, aEv, aTake, aLoad, aField, aLen, aBin, bin2, ASt.get, aget, ASt.put, aCells, oneC, oneCL, Value.oneCell', aResL, aOne, ↓reduceIte, reduceCtorEq, Nat.reduceLT, Nat.reduceEqDiff, Nat.reduceAdd, Nat.reduceLeDiff, eq_self, ne_eq, aExecS, aStoreB, aTakes, aFrom, aMay, tyA_110, tyS_110, tyA_3, tyS_3, tyF_110_0, tyF_43_4, tyA_36, tyS_36, tyE_36] | (with_reducible refine aIf_split (fun _ => ?_) (fun _ => ?_)) | (with_reducible refine aSel_split (fun _ => ?_) (fun _ => ?_)) | (with_reducible refine aGd_split (fun _ => ?_) (fun _ => ?_))))
        · rename_i h
          exact gives_tree (by simp only [AV.ren, AV.renL, h, Bool.true_and])
        · rename_i h
          exact gives_tree (by simp only [AV.ren, AV.renL, h, Bool.false_and])
      · have eR : findR m (false, (k : Int)) = ⟨.tup [.agg [eI 0, eI 0, .c (.slice none 0 0), eI 0], eB false], [], 0⟩ := by simp [findR, sentryM, hk]
        rw [eR]
        (repeat' (first | simp (maxSteps := 5000000) (implicitDefEqProofs := false) only [ruA, ruB, aEv, aTake, aLoad, aField, aLen, aBin, bin2, aUn, un1, ASt.get, aget, ASt.put, aStore, aBox, aCells, oneC, oneCL, Value.cells, Value.oneCell', envOf, aResL, aOne, ↓reduceIte, reduceCtorEq, Nat.reduceLT, Nat.reduceEqDiff, Nat.reduceAdd, Nat.reduceLeDiff, eq_self, ne_eq, tyA_110, tyS_110, tyZ_110, tyF_98_0, tyA_4, tyS_4, tyF_98_1, tyA_3, tyS_3, tyF_43_6, tyA_38, tyS_38, tyE_38, hk] | (with_reducible refine aIf_split (fun _ => ?_) (fun _ => ?_)) | (with_reducible refine aSel_split (fun _ => ?_) (fun _ => ?_)) | (with_reducible refine aGd_split (fun _ => ?_) (fun _ => ?_))))
        exact gives_tree rfl
    · by_cases hk : k < m.miles.length
      · have e : sentryM m (true, (k : Int)) = some (m.miles[k].stage, m.miles[k].event, m.miles[k].cond, (k : Int)) := by simp [sentryM, hk]
        have eR : findR m (true, (k : Int)) = ⟨.tup [.agg [eI m.miles[k].stage, eI m.miles[k].event, sInsts m.miles[k].cond, eI k], eB (decide (0 ≤ m.miles[k].stage) && decide (m.miles[k].stage < m.stages.length))], [], 0⟩ := by unfold findR; rw [e]
        rw [eR]
        (repeat' (first | simp (maxSteps := 5000000) (implicitDefEqProofs := false) only [ruA, ruB, aEv, aTake, aLoad, aField, aIndex, aLen, aBin, bin2, ASt.get, aget, ASt.put, aStore, aBox, aBuild, aFill, oneParts, aCells, oneC, oneCL, Value.cells, Value.oneCell', envOf, ↓reduceIte, reduceCtorEq, Nat.reduceLT, Nat.reduceEqDiff, Nat.reduceAdd, Nat.reduceLeDiff, eq_self, ne_eq, tyS_110, tyZ_110, tyF_98_0, tyA_4, tyS_4, tyF_98_1, tyA_3, tyS_3, tyF_43_7, tyA_39, tyS_39, tyE_39, tyA_120, tyS_120, tyZ_120, tyF_120_1, tyF_120_2, tyF_120_3, tyA_108, tyS_108, tyB_110, row_at, hk] | (with_reducible refine aIf_split (fun _ => ?_) (fun _ => ?_)) | (with_reducible refine aSel_split (fun _ => ?_) (fun _ => ?_)) | (with_reducible refine aGd_split (fun _ => ?_) (fun _ => ?_))))
        refine aDraw_held [2] [0, 1, 2, 3, 4, 5, 6, 7, 8, 9, 10, 11] (.exec 12 (.exec 13 .done)) (by kernel_rfl) (by simp [ATab.get_cons]) ?_
        (repeat' (first | simp (maxSteps := 5000000) (implicitDefEqProofs := false) only [ruA, ruB, aEv, aTake, aLoad, aField, aLen, aBin, bin2, ASt.get, aget, ASt.put, aCells, oneC, oneCL, Value.oneCell', aResL, aOne, ↓reduceIte, reduceCtorEq, Nat.reduceLT, Nat.reduceEqDiff, Nat.reduceAdd, Nat.reduceLeDiff, eq_self, ne_eq, aExecS, aStoreB, aTakes, aFrom, aMay, tyA_110, tyS_110, tyA_3, tyS_3, tyF_110_0, tyF_43_4, tyA_36, tyS_36, tyE_36] | (with_reducible refine aIf_split (fun _ => ?_) (fun _ => ?_)) | (with_reducible refine aSel_split (fun _ => ?_) (fun _ => ?_)) | (with_reducible refine aGd_split (fun _ => ?_) (fun _ => ?_))))
        · rename_i h
          exact gives_tree (by simp only [AV.ren, AV.renL, h, Bool.true_and])
        · rename_i h
          exact gives_tree (by simp only [AV.ren, AV.renL, h, Bool.false_and])
      · have eR : findR m (true, (k : Int)) = ⟨.tup [.agg [eI 0, eI 0, .c (.slice none 0 0), eI 0], eB false], [], 0⟩ := by simp [findR, sentryM, hk]
        rw [eR]
        (repeat' (first | simp (maxSteps := 5000000) (implicitDefEqProofs := false) only [ruA, ruB, aEv, aTake, aLoad, aField, aLen, aBin, bin2, aUn, un1, ASt.get, aget, ASt.put, aStore, aBox, aCells, oneC, oneCL, Value.cells, Value.oneCell', envOf, aResL, aOne, ↓reduceIte, reduceCtorEq, Nat.reduceLT, Nat.reduceEqDiff, Nat.reduceAdd, Nat.reduceLeDiff, eq_self, ne_eq, tyA_110, tyS_110, tyZ_110, tyF_98_0, tyA_4, tyS_4, tyF_98_1, tyA_3, tyS_3, tyF_43_7, tyA_39, tyS_39, tyE_39, hk] | (with_reducible refine aIf_split (fun _ => ?_) (fun _ => ?_)) | (with_reducible refine aSel_split (fun _ => ?_) (fun _ => ?_)) | (with_reducible refine aGd_split (fun _ => ?_) (fun _ => ?_))))
        exact gives_tree rfl
  · have eR : findR m (xm, xn) = ⟨.tup [.agg [eI 0, eI 0, .c (.slice none 0 0), eI 0], eB false], [], 0⟩ := by cases xm <;> simp [findR, sentryM, h0]
    rw [eR]
    cases xm
    all_goals
      (repeat' (first | simp (maxSteps := 5000000) (implicitDefEqProofs := false) only [ruA, ruB, aEv, aTake, aLoad, aField, aBin, bin2, aUn, un1, ASt.get, aget, ASt.put, aStore, aBox, aCells, oneC, oneCL, Value.cells, Value.oneCell', envOf, aResL, aOne, ↓reduceIte, reduceCtorEq, Nat.reduceLT, Nat.reduceEqDiff, Nat.reduceAdd, Nat.reduceLeDiff, eq_self, tyA_110, tyS_110, tyZ_110, tyF_98_0, tyA_4, tyS_4, tyF_98_1, tyA_3, tyS_3, h0] | (with_reducible refine aIf_split (fun _ => ?_) (fun _ => ?_)) | (with_reducible refine aSel_split (fun _ => ?_) (fun _ => ?_)) | (with_reducible refine aGd_split (fun _ => ?_) (fun _ => ?_))))
      exact gives_tree rfl
def aboveM (m : Mod) (opn st : Int) : Bool :=
  ((m.stages.getD st.toNat (⟨#[]⟩, 0)).2 == -1) || (decide ((m.stages.getD st.toNat (⟨#[]⟩, 0)).2 < m.stages.length) && hasB opn (m.stages.getD st.toNat (⟨#[]⟩, 0)).2)
set_option maxRecDepth 100000 in
theorem above_A (m : Mod) (s : St) (k : Nat) (hk : k < m.stages.length) : ADet Tryz.prog 79 [.agg (eMod m), .agg (eSt s), eI (k : Int)] (val (.bool (aboveM m s.opn k))) := by
  refine adet_of_code mixedT Tryz.func79 rfl (by decide) Tryz.ntmps79 Tryz.results79 rfl (val_ok _) ?_
  have e : aboveM m s.opn k = ((m.stages[k].2 == -1) || (decide (m.stages[k].2 < m.stages.length) && hasB s.opn m.stages[k].2)) := by simp [aboveM, hk]
  rw [e]
  (repeat' (first | simp (maxSteps := 5000000) (implicitDefEqProofs := false) only [ruA, ruB, aEv, aTake, aLoad, aField, aIndex, aLen, aBin, bin2, ASt.get, aget, ASt.put, aBox, aCells, oneC, oneCL, Value.oneCell', envOf, aResL, aOne, ↓reduceIte, reduceCtorEq, Nat.reduceLT, Nat.reduceEqDiff, Nat.reduceAdd, Nat.reduceLeDiff, eq_self, ne_eq, tyF_43_4, tyA_36, tyS_36, tyE_36, tyF_146_1, tyA_3, tyS_3, tyF_51_1, row_at, hk] | (with_reducible refine aIf_split (fun _ => ?_) (fun _ => ?_)) | (with_reducible refine aSel_split (fun _ => ?_) (fun _ => ?_)) | (with_reducible refine aGd_split (fun _ => ?_) (fun _ => ?_))))
  · rename_i h
    rw [h]; rfl
  · rename_i h1 h2
    refine callV (has_A _ _) ?_
    (repeat' (first | simp (maxSteps := 5000000) (implicitDefEqProofs := false) only [ruA, ruB, aEv, ASt.get, aget, ASt.put, aResL, aOne, ↓reduceIte, Nat.reduceLT, Nat.reduceEqDiff, eq_self] | (with_reducible refine aIf_split (fun _ => ?_) (fun _ => ?_)) | (with_reducible refine aSel_split (fun _ => ?_) (fun _ => ?_)) | (with_reducible refine aGd_split (fun _ => ?_) (fun _ => ?_))))
    rw [h1]
    simp [h2]
  · rename_i h1 h2
    rw [h1]
    simp [h2]
end
section
open Go.RowKit

/-- a call that gives back a value and no memory of its own -/
def inS (m : Mod) (st : Int) : Bool := decide (0 ≤ st) && decide (st < (m.stages.length : Int))
theorem findR_none {m : Mod} {x : Bool × Int} (h : sentryM m x = none) : findR m x = ⟨.tup [.agg [eI 0, eI 0, .c (.slice none 0 0), eI 0], eB false], [], 0⟩ := by unfold findR; rw [h]
theorem findR_some {m : Mod} {x : Bool × Int} {st ev mi : Int} {cond : List Inst} (h : sentryM m x = some (st, ev, cond, mi)) : findR m x = ⟨.tup [.agg [eI st, eI ev, sInsts cond, eI mi], eB (inS m st)], [], 0⟩ := by unfold findR; rw [h]; rfl
def readyM (m : Mod) (opn : Int) (x : Bool × Int) (event : Int) : Bool :=
  match sentryM m x with
  | some (st, ev, _, _) => inS m st && ((ev == -1 || ev == event) && (hasB opn st == x.1) && (x.1 || aboveM m opn st))
  | none => false
set_option maxRecDepth 100000 in
set_option maxHeartbeats 4000000 in
theorem ready_A (m : Mod) (s : St) (xm : Bool) (xn event : Int) : ADet Tryz.prog 61 [.agg (eMod m), .agg (eSt s), .agg [eB xm, eI xn], eI event] (val (.bool (readyM m s.opn (xm, xn) event))) := by
  refine adet_of_code mixedT Tryz.func61 rfl (by decide) Tryz.ntmps61 Tryz.results61 rfl (val_ok _) ?_
  (repeat' (first | simp (maxSteps := 5000000) (implicitDefEqProofs := false) only [ruA, ruB, aEv, aTake, aLoad, ASt.get, aget, ASt.put, aBox, aCells, oneC, oneCL, Value.oneCell', envOf, ↓reduceIte, reduceCtorEq, Nat.reduceLT, Nat.reduceEqDiff, Nat.reduceAdd, eq_self, tyA_43, tyS_43, tyA_98, tyS_98] | (with_reducible refine aIf_split (fun _ => ?_) (fun _ => ?_)) | (with_reducible refine aSel_split (fun _ => ?_) (fun _ => ?_)) | (with_reducible refine aGd_split (fun _ => ?_) (fun _ => ?_))))
  have ro : roL [.agg (eMod m), .agg [eB xm, eI xn]] := by simp [roL, roA, treeL, treeC]
  cases hf : sentryM m (xm, xn) with
  | none =>
    have e : readyM m s.opn (xm, xn) event = false := by simp [readyM, hf]
    rw [e]
    have hA := find_A m xm xn
    rw [findR_none hf] at hA
    refine callT hA (.inl ro) ?_
    (repeat' (first | simp (maxSteps := 5000000) (implicitDefEqProofs := false) only [ruA, ruB, aEv, aExtract, ASt.get, aget, ASt.put, aStore, aBox, aCells, oneC, oneCL, Value.cells, Value.oneCell', ↓reduceIte, Nat.reduceLT, Nat.reduceEqDiff, Nat.reduceAdd, eq_self, AV.shift, AV.shiftL, tyZ_110, tyS_110] | (with_reducible refine aIf_split (fun _ => ?_) (fun _ => ?_)) | (with_reducible refine aSel_split (fun _ => ?_) (fun _ => ?_)) | (with_reducible refine aGd_split (fun _ => ?_) (fun _ => ?_))))
    refine aDraw_quiet (by kernel_rfl) ?_
    (repeat' (first | simp (maxSteps := 5000000) (implicitDefEqProofs := false) only [ruA, ruB, aEv, aUn, un1, ASt.get, aget, ASt.put, aResL, aOne, ↓reduceIte, Nat.reduceLT, Nat.reduceEqDiff, eq_self] | (with_reducible refine aIf_split (fun _ => ?_) (fun _ => ?_)) | (with_reducible refine aSel_split (fun _ => ?_) (fun _ => ?_)) | (with_reducible refine aGd_split (fun _ => ?_) (fun _ => ?_))))
  | some q =>
    obtain ⟨st, ev, cond, mi⟩ := q
    have e : readyM m s.opn (xm, xn) event = (inS m st && ((ev == -1 || ev == event) && (hasB s.opn st == xm) && (xm || aboveM m s.opn st))) := by simp [readyM, hf]
    rw [e]
    have hA := find_A m xm xn
    rw [findR_some hf] at hA
    refine callT hA (.inl ro) ?_
    (repeat' (first | simp (maxSteps := 5000000) (implicitDefEqProofs := false) only [ruA, ruB, aEv, aExtract, ASt.get, aget, ASt.put, aStore, aBox, aCells, oneC, oneCL, Value.cells, Value.oneCell', ↓reduceIte, Nat.reduceLT, Nat.reduceEqDiff, Nat.reduceAdd, eq_self, AV.shift, AV.shiftL, tyZ_110, tyS_110] | (with_reducible refine aIf_split (fun _ => ?_) (fun _ => ?_)) | (with_reducible refine aSel_split (fun _ => ?_) (fun _ => ?_)) | (with_reducible refine aGd_split (fun _ => ?_) (fun _ => ?_))))
    refine aDraw_quiet (by kernel_rfl) ?_
    (repeat' (first | simp (maxSteps := 5000000) (implicitDefEqProofs := false) only [ruA, ruB, aEv, aTake, aLoad, aField, aBin, bin2, aUn, un1, ASt.get, aget, ASt.put, aResL, aOne, ↓reduceIte, reduceCtorEq, Nat.reduceLT, Nat.reduceEqDiff, Nat.reduceAdd, Nat.reduceLeDiff, eq_self, dref, tyF_110_1, tyA_3, tyS_3, tyF_51_1, tyF_110_0, tyF_98_0, tyA_4, tyS_4, tyK_4] | (with_reducible refine aIf_split (fun _ => ?_) (fun _ => ?_)) | (with_reducible refine aSel_split (fun _ => ?_) (fun _ => ?_)) | (with_reducible refine aGd_split (fun _ => ?_) (fun _ => ?_))))
    · rename_i h
      simp at h
      simp [h]
    · rename_i h1 h2 h3
      have e1 : (ev == -1 || ev == event) = false := by simp at h2 h3; simp [h2, h3]
      simp [e1]
    all_goals
      have e0 : inS m st = true := by simp_all
      have e1 : (ev == -1 || ev == event) = true := by simp_all
      refine callD (has_A _ _) ?_
      (repeat' (first | simp (maxSteps := 5000000) (implicitDefEqProofs := false) only [ruA, ruB, aEv, aTake, aLoad, aField, ASt.get, aget, ASt.put, aResL, aOne, ↓reduceIte, reduceCtorEq, Nat.reduceLT, Nat.reduceEqDiff, Nat.reduceAdd, Nat.reduceLeDiff, eq_self, tyA_43, tyS_43, tyA_3, tyS_3, tyF_110_0, tyF_98_0, tyA_4, tyS_4, tyA_51, tyS_51] | (with_reducible refine aIf_split (fun _ => ?_) (fun _ => ?_)) | (with_reducible refine aSel_split (fun _ => ?_) (fun _ => ?_)) | (with_reducible refine aGd_split (fun _ => ?_) (fun _ => ?_))))
      · rename_i h
        simp at h
        simp [h]
      · rename_i h h3
        subst h3
        have e2 : hasB s.opn st = true := by simpa using h
        simp [e0, e1, e2]
      · rename_i h h3
        subst h3
        have e2 : hasB s.opn st = false := by simpa using h
        obtain ⟨k, rfl⟩ : ∃ k : Nat, st = (k : Int) := ⟨st.toNat, by simp [inS] at e0; omega⟩
        have hk : k < m.stages.length := by simp [inS] at e0; omega
        refine callV (above_A m s k hk) ?_
        (repeat' (first | simp (maxSteps := 5000000) (implicitDefEqProofs := false) only [ruA, ruB, aEv, ASt.get, aget, ASt.put, aResL, aOne, ↓reduceIte, Nat.reduceLT, Nat.reduceEqDiff, eq_self] | (with_reducible refine aIf_split (fun _ => ?_) (fun _ => ?_)) | (with_reducible refine aSel_split (fun _ => ?_) (fun _ => ?_)) | (with_reducible refine aGd_split (fun _ => ?_) (fun _ => ?_))))
        simp [e0, e1, e2]
def firesM (m : Mod) (s : St) (x : Bool × Int) (event : Int) : Bool := readyM m s.opn x event && (match sentryM m x with | some (_, _, cond, _) => optB (holdsO cond s) | none => false)
theorem sentryM_cond {m : Mod} {x : Bool × Int} {st ev mi : Int} {cond : List Inst} (h : sentryM m x = some (st, ev, cond, mi)) : (∃ g ∈ m.guards, g.cond = cond) ∨ (∃ g ∈ m.miles, g.cond = cond) := by
  unfold sentryM at h
  split at h
  all_goals
    split at h
    · simp at h
      obtain ⟨a, ha, hb⟩ := h
      have := List.mem_of_getElem? ha
      first | exact .inl ⟨a, this, hb.2.2.1⟩ | exact .inr ⟨a, this, hb.2.2.1⟩
    · cases h
set_option maxRecDepth 100000 in
set_option maxHeartbeats 4000000 in
theorem fires_A (m : Mod) (s : St) (xm : Bool) (xn event : Int) (hf : Fit m) (hc : condOk m) (hs : ∀ x ∈ s.vals, ok64 x) : ADet Tryz.prog 48 [.agg (eMod m), .agg (eSt s), .agg [eB xm, eI xn], eI event] (val (.bool (firesM m s (xm, xn) event))) := by
  refine adet_of_code mixedT Tryz.func48 rfl (by decide) Tryz.ntmps48 Tryz.results48 rfl (val_ok _) ?_
  (repeat' (first | simp (maxSteps := 5000000) (implicitDefEqProofs := false) only [ruA, ruB, aEv, aTake, aLoad, ASt.get, aget, ASt.put, aBox, aCells, oneC, oneCL, Value.oneCell', envOf, ↓reduceIte, reduceCtorEq, Nat.reduceLT, Nat.reduceEqDiff, Nat.reduceAdd, eq_self, tyA_43, tyS_43, tyA_51, tyS_51, tyA_98, tyS_98] | (with_reducible refine aIf_split (fun _ => ?_) (fun _ => ?_)) | (with_reducible refine aSel_split (fun _ => ?_) (fun _ => ?_)) | (with_reducible refine aGd_split (fun _ => ?_) (fun _ => ?_))))
  refine callV (ready_A m s xm xn event) ?_
  (repeat' (first | simp (maxSteps := 5000000) (implicitDefEqProofs := false) only [ruA, ruB, aEv, aTake, aLoad, aUn, un1, ASt.get, aget, ASt.put, aResL, aOne, ↓reduceIte, reduceCtorEq, Nat.reduceLT, Nat.reduceEqDiff, Nat.reduceAdd, eq_self, tyA_43, tyS_43, tyA_98, tyS_98] | (with_reducible refine aIf_split (fun _ => ?_) (fun _ => ?_)) | (with_reducible refine aSel_split (fun _ => ?_) (fun _ => ?_)) | (with_reducible refine aGd_split (fun _ => ?_) (fun _ => ?_))))
  · rename_i h
    simp at h
    simp [firesM, h]
  · rename_i h
    have hr : readyM m s.opn (xm, xn) event = true := by simpa using h
    have ro : roL [.agg (eMod m), .agg [eB xm, eI xn]] := by simp [roL, roA, treeL, treeC]
    cases he : sentryM m (xm, xn) with
    | none => simp [readyM, he] at hr
    | some q =>
      obtain ⟨st, ev, cond, mi⟩ := q
      have hA := find_A m xm xn
      rw [findR_some he] at hA
      refine callT hA (.inl ro) ?_
      (repeat' (first | simp (maxSteps := 5000000) (implicitDefEqProofs := false) only [ruA, ruB, aEv, aTake, aLoad, aField, aExtract, ASt.get, aget, ASt.put, aStore, aBox, aCells, oneC, oneCL, Value.cells, Value.oneCell', ↓reduceIte, reduceCtorEq, Nat.reduceLT, Nat.reduceEqDiff, Nat.reduceAdd, Nat.reduceLeDiff, eq_self, AV.shift, AV.shiftL, tyA_51, tyS_51, tyZ_110, tyS_110, tyF_110_2, tyA_108, tyS_108] | (with_reducible refine aIf_split (fun _ => ?_) (fun _ => ?_)) | (with_reducible refine aSel_split (fun _ => ?_) (fun _ => ?_)) | (with_reducible refine aGd_split (fun _ => ?_) (fun _ => ?_))))
      have hcl : cond.length ≤ 900 := by
        rcases sentryM_cond he with ⟨g, hg, rfl⟩ | ⟨g, hg, rfl⟩
        · have := hf.guards g hg
          omega
        · have := hf.miles g hg
          omega
      have hco : ∀ x ∈ cond, x.ok := by
        rcases sentryM_cond he with ⟨g, hg, rfl⟩ | ⟨g, hg, rfl⟩
        · exact hc.1 g hg
        · exact hc.2 g hg
      refine callT (holds_A cond s hcl hco hs) (.inl (by simp [roL, roA, treeL, treeC])) ?_
      (repeat' (first | simp (maxSteps := 5000000) (implicitDefEqProofs := false) only [ruA, ruB, aEv, aExtract, ASt.get, aget, ASt.put, aResL, aOne, ↓reduceIte, Nat.reduceLT, Nat.reduceEqDiff, Nat.reduceAdd, eq_self, AV.shift, AV.shiftL] | (with_reducible refine aIf_split (fun _ => ?_) (fun _ => ?_)) | (with_reducible refine aSel_split (fun _ => ?_) (fun _ => ?_)) | (with_reducible refine aGd_split (fun _ => ?_) (fun _ => ?_))))
      simp [firesM, hr, he]
set_option maxRecDepth 100000 in
theorem parents_A (m : Mod) (hl : m.stages.length ≤ 1000000) : ADet Tryz.prog 66 [.agg (eMod m)] (own 3 1 ((m.stages.map (·.2)).map fun n => [eI n])) := by
  refine adet_of_code mixedT Tryz.func66 rfl (by decide) Tryz.ntmps66 Tryz.results66 rfl (own_ok _ _ _) ?_
  (repeat' (first | simp (maxSteps := 5000000) (implicitDefEqProofs := false) only [ruA, ruB, aEv, aTake, aLoad, aField, aLen, ASt.get, aget, ASt.put, aBox, aCells, oneC, oneCL, envOf, ↓reduceIte, reduceCtorEq, Nat.reduceLT, Nat.reduceEqDiff, Nat.reduceAdd, Nat.reduceLeDiff, eq_self, ne_eq, tyF_43_4, tyA_36, tyS_36, tyE_36] | (with_reducible refine aIf_split (fun _ => ?_) (fun _ => ?_)) | (with_reducible refine aSel_split (fun _ => ?_) (fun _ => ?_)) | (with_reducible refine aGd_split (fun _ => ?_) (fun _ => ?_))))
  refine aLoop_of (fun st => ∃ k : Nat, k ≤ m.stages.length ∧ st = ⟨20, [(3, .osl 0), (7, .sl 2 (m.stages.map eNI)), (8, eI m.stages.length), (9, eI (k : Int))], [(0, some (.row 3 1 ((m.stages.take k).map fun p => [eI p.2])))], 1⟩) (fun st => m.stages.length - slotN st 9) ⟨_, ((weak_nil 3 3 1 (by simp only [ASt.get, aget, ↓reduceIte, Nat.reduceLT, Nat.reduceEqDiff, eq_self])).trans (weak_ren1 [1] ⟨(by decide), (by (first | ((simp only [envInR, tabInR, envLt, tabLt, AObj.lt, AV.lt, AV.ren, AObj.ren, List.getD_cons_zero, List.length_cons, List.length_nil, ruW, ASt.get, aget, ↓reduceIte, Nat.reduceLT, Nat.reduceEqDiff, Nat.reduceAdd, eq_self, List.take_zero]) <;> (repeat' apply And.intro) <;> first | (rw [wrapK (by omega)]; done) | (simp; done) | omega) | fail))⟩)), 0, Nat.zero_le _, rfl⟩ ?_
  rintro _ ⟨k, hk, rfl⟩
  by_cases hlt : k < m.stages.length
  · have et : (m.stages.take (k + 1)).map (fun p => [eI p.2]) = (m.stages.take k).map (fun p => [eI p.2]) ++ [[eI m.stages[k].2]] := take_snoc _ _ hlt
    have el : ((m.stages.take k).map fun p => [eI p.2]).length + 1 ≤ 1000000 := by simp; omega
    (repeat' (first | simp (maxSteps := 5000000) (implicitDefEqProofs := false) only [ruA, ruB, aEv, aTake, aLoad, aField, aIndex, aBin, bin2, ASt.get, aget, ASt.put, aStore, aBox, aAppend, aBuildSlice, aCells, oneC, oneCL, treeC, treeL, aLit, aDst, aSrc, appTab, Value.cells, Value.oneCell', ↓reduceIte, reduceCtorEq, Nat.reduceLT, Nat.reduceEqDiff, Nat.reduceAdd, Nat.reduceMul, Nat.reduceLeDiff, eq_self, aBuildSlice1, frzs, ownIds, tyE_36, tyA_146, tyS_146, tyZ_146, tyF_146_1, tyA_3, tyS_3, tyR_23, row_at, hlt] | (with_reducible refine aIf_split (fun _ => ?_) (fun _ => ?_)) | (with_reducible refine aSel_split (fun _ => ?_) (fun _ => ?_)) | (with_reducible refine aGd_split (fun _ => ?_) (fun _ => ?_))))
    refine ⟨rfl, by simp only [List.length_take]; omega, roundI (weak_ren1 [3] ⟨(by decide), (by (first | ((simp only [envInR, tabInR, envLt, tabLt, AObj.lt, AV.lt, AV.ren, AObj.ren, List.getD_cons_zero, List.length_cons, List.length_nil, ruW, ASt.get, aget, ↓reduceIte, Nat.reduceLT, Nat.reduceEqDiff, Nat.reduceAdd, eq_self, et]) <;> (repeat' apply And.intro) <;> first | (rw [wrapK (by omega)]; done) | (simp; done) | omega) | fail))⟩) ⟨k + 1, by omega, rfl⟩ (by simp only [slotN, ruW, ASt.get, aget, ↓reduceIte, Nat.reduceLT, Nat.reduceEqDiff, eq_self]; omega)⟩
  · obtain rfl : k = m.stages.length := by omega
    (repeat' (first | simp (maxSteps := 5000000) (implicitDefEqProofs := false) only [ruA, ruB, aEv, aBin, bin2, ASt.get, aget, ASt.put, aResL, aOne, ↓reduceIte, Nat.reduceLT, Nat.reduceEqDiff, eq_self, hlt] | (with_reducible refine aIf_split (fun _ => ?_) (fun _ => ?_)) | (with_reducible refine aSel_split (fun _ => ?_) (fun _ => ?_)) | (with_reducible refine aGd_split (fun _ => ?_) (fun _ => ?_))))
    exact aGives_own (by simp [ATab.get_cons])
end
section
open Go.RowKit

theorem below_len (l : List Int) (i : Int) : (belowL l i).length ≤ l.length := by
  unfold belowL
  split
  · rw [List.length_map]
    exact Nat.le_trans (List.length_filter_le _ _) (by simp)
  · simp
def undo (l : List Ml) (st d : Int) : Nat → Int
  | 0 => d
  | k + 1 => if l[k]?.map (·.stage) = some st then withoutB (undo l st d k) (k : Int) else undo l st d k
def fireM (m : Mod) (s : St) (x : Bool × Int) : St :=
  match sentryM m x with
  | some (st, _, _, mi) =>
    if inS m st = true then
      if x.1 = true then { s with don := withB s.don mi, opn := (belowL (pars m) st ++ [st]).foldl withoutB s.opn }
      else { s with opn := withB s.opn st, don := undo m.miles st s.don m.miles.length }
    else s
  | none => s
set_option maxRecDepth 100000 in
set_option maxHeartbeats 4000000 in
theorem fire_A (m : Mod) (s : St) (xm : Bool) (xn : Int) (hf : Fit m) (hp : ∀ p ∈ m.stages, ok64 p.2) : ADet Tryz.prog 49 [.agg (eMod m), .agg (eSt s), .agg [eB xm, eI xn]] ⟨.agg (eSt (fireM m s (xm, xn))), [], 0⟩ := by
  refine adet_of_code mixedT Tryz.func49 rfl (by decide) Tryz.ntmps49 Tryz.results49 rfl (⟨fun id o h => (by cases h), ⟨trivial, trivial, trivial, trivial, trivial, trivial⟩⟩) ?_
  (repeat' (first | simp (maxSteps := 5000000) (implicitDefEqProofs := false) only [ruA, ruB, aEv, aTake, aLoad, ASt.get, aget, ASt.put, aBox, aCells, oneC, oneCL, Value.cells, Value.oneCell', envOf, ↓reduceIte, reduceCtorEq, Nat.reduceLT, Nat.reduceEqDiff, Nat.reduceAdd, eq_self, tyZ_51, tyA_43, tyS_43, tyA_98, tyS_98] | (with_reducible refine aIf_split (fun _ => ?_) (fun _ => ?_)) | (with_reducible refine aSel_split (fun _ => ?_) (fun _ => ?_)) | (with_reducible refine aGd_split (fun _ => ?_) (fun _ => ?_))))
  have ro : roL [.agg (eMod m), .agg [eB xm, eI xn]] := by simp [roL, roA, treeL, treeC]
  have hA := find_A m xm xn
  obtain ⟨-, hmi, hst, -⟩ := id hf.sizes
  cases he : sentryM m (xm, xn) with
  | none =>
    rw [findR_none he] at hA
    refine callT hA (.inl ro) ?_
    (repeat' (first | simp (maxSteps := 5000000) (implicitDefEqProofs := false) only [ruA, ruB, aEv, aTake, aLoad, aUn, un1, aExtract, ASt.get, aget, ASt.put, aStore, aBox, aCells, oneC, oneCL, Value.cells, Value.oneCell', aResL, aOne, ↓reduceIte, Nat.reduceLT, Nat.reduceEqDiff, Nat.reduceAdd, eq_self, AV.shift, AV.shiftL, tyA_51, tyS_51, tyZ_110, tyS_110] | (with_reducible refine aIf_split (fun _ => ?_) (fun _ => ?_)) | (with_reducible refine aSel_split (fun _ => ?_) (fun _ => ?_)) | (with_reducible refine aGd_split (fun _ => ?_) (fun _ => ?_))))
    exact gives_tree (by simp [fireM, he, AV.ren, AV.renL])
  | some q =>
    obtain ⟨st, ev, cond, mi⟩ := q
    rw [findR_some he] at hA
    refine callT hA (.inl ro) ?_
    (repeat' (first | simp (maxSteps := 5000000) (implicitDefEqProofs := false) only [ruA, ruB, aEv, aTake, aLoad, aField, aUn, un1, aExtract, ASt.get, aget, ASt.put, aStore, aBox, aCells, oneC, oneCL, Value.cells, Value.oneCell', aResL, aOne, ↓reduceIte, reduceCtorEq, Nat.reduceLT, Nat.reduceEqDiff, Nat.reduceAdd, Nat.reduceLeDiff, eq_self, AV.shift, AV.shiftL, tyA_51, tyS_51, tyZ_110, tyS_110, tyF_98_0, tyA_4, tyS_4, tyF_51_2, tyA_3, tyS_3, tyF_110_3, tyF_110_0, tyF_51_1] | (with_reducible refine aIf_split (fun _ => ?_) (fun _ => ?_)) | (with_reducible refine aSel_split (fun _ => ?_) (fun _ => ?_)) | (with_reducible refine aGd_split (fun _ => ?_) (fun _ => ?_))))
    · rename_i h
      have h : inS m st = false := by simpa using h
      exact gives_tree (by simp [fireM, he, h, AV.ren, AV.renL])
    · rename_i h hx
      refine callV (with_A _ _) ?_
      (repeat' (first | simp (maxSteps := 5000000) (implicitDefEqProofs := false) only [ruA, ruB, aEv, aField, ASt.get, aget, ASt.put, aStore, aCells, oneC, oneCL, Value.cells, Value.oneCell', ↓reduceIte, Nat.reduceLT, Nat.reduceEqDiff, Nat.reduceAdd, Nat.reduceLeDiff, eq_self, tyF_51_2, tyS_3] | (with_reducible refine aIf_split (fun _ => ?_) (fun _ => ?_)) | (with_reducible refine aSel_split (fun _ => ?_) (fun _ => ?_)) | (with_reducible refine aGd_split (fun _ => ?_) (fun _ => ?_))))
      have hbl : (belowL (pars m) st).length ≤ 1000 := by
        have := below_len (pars m) st
        simp [pars] at this ⊢
        omega
      have hpl : (pars m).length ≤ 1073741824 := by simp [pars]; omega
      have hpo : ∀ x ∈ pars m, ok64 x := fun x hx => by
        obtain ⟨p, hp', rfl⟩ := List.mem_map.1 hx
        exact hp p hp'
      refine aDraw_join (fun s' => s' = ⟨77, [(4, .op 0 0 0), (6, .op 1 0 0), (38, .osl 2), (39, eI ((belowL (pars m) st ++ [st]).length : Int)), (40, eI 0)], [(0, some (.box 51 (eSt { s with don := withB s.don mi }))), (1, some (.box 51 [.c (.slice none 0 0), eI 0, eI 0, .c (.slice none 0 0), .c (.slice none 0 0)])), (2, some (.row 3 1 ((belowL (pars m) st ++ [st]).map fun n => [eI n])))], 3⟩)
        [] [0, 2, 3, 5, 6, 10] (.two 1 (.two 4 (.exec 7 (.exec 8 (.take 9 .done))) 7 (.exec 4 (.exec 8 (.take 9 .done)))) 7 (.exec 1 (.exec 4 (.exec 8 (.take 9 .done))))) (by kernel_rfl) (by simp) ?_ ?_
      · (repeat' (first | simp (maxSteps := 5000000) (implicitDefEqProofs := false) only [ruA, ruB, aEv, aTake, aLoad, aField, ASt.get, aget, ASt.put, aBuildSlice, aCells, oneC, oneCL, treeC, treeL, aLit, Value.cells, Value.oneCell', ↓reduceIte, reduceCtorEq, Nat.reduceLT, Nat.reduceEqDiff, Nat.reduceAdd, Nat.reduceMul, Nat.reduceLeDiff, eq_self, aTakes, aFrom, aBuildSlice1, frzs, ownIds, tyA_43, tyS_43, tyA_3, tyS_3, tyF_110_0, tyR_23] | (with_reducible refine aIf_split (fun _ => ?_) (fun _ => ?_)) | (with_reducible refine aSel_split (fun _ => ?_) (fun _ => ?_)) | (with_reducible refine aGd_split (fun _ => ?_) (fun _ => ?_))))
        have fin : (((belowL (pars m) st).map fun n => [eI n]).length ≤ 9223372036854775806 ∧ (((belowL (pars m) st).map fun n => [eI n]).length + 1) * 8 ≤ 140737488355328) := by simp; omega
        refine ⟨?_, rfl, ?_⟩
        · refine callO (parents_A m (by omega)) (.inr ints_plain) ?_
          (repeat' (first | simp (maxSteps := 5000000) (implicitDefEqProofs := false) only [ruA, ruB, aEv, ASt.get, aget, ASt.put, aBuildSlice, aCells, oneC, oneCL, treeC, treeL, aLit, Value.cells, Value.oneCell', ↓reduceIte, Nat.reduceLT, Nat.reduceEqDiff, Nat.reduceAdd, Nat.reduceMul, Nat.reduceLeDiff, eq_self, aBuildSlice1, frzs, ownIds, tyR_23] | (with_reducible refine aIf_split (fun _ => ?_) (fun _ => ?_)) | (with_reducible refine aSel_split (fun _ => ?_) (fun _ => ?_)) | (with_reducible refine aGd_split (fun _ => ?_) (fun _ => ?_))))
          refine ⟨?_, rfl, ?_⟩
          · refine callO (below_A (pars m) st hpl hpo) (.inr ints_plain) ?_
            (repeat' (first | simp (maxSteps := 5000000) (implicitDefEqProofs := false) only [ruA, ruB, aEv, aLen, ASt.get, aget, ASt.put, aAppend, aBuildSlice, aCells, oneC, oneCL, treeC, treeL, aLit, aDst, aSrc, appTab, Value.cells, Value.oneCell', ↓reduceIte, Nat.reduceLT, Nat.reduceEqDiff, Nat.reduceAdd, Nat.reduceMul, Nat.reduceLeDiff, eq_self, ne_eq, aTakeE, aFresh, aBuildSlice1, frzs, ownIds, aMay, tyR_23, tyE_23] | (with_reducible refine aIf_split (fun _ => ?_) (fun _ => ?_)) | (with_reducible refine aSel_split (fun _ => ?_) (fun _ => ?_)) | (with_reducible refine aGd_split (fun _ => ?_) (fun _ => ?_))))
            exact ⟨rfl, ⟨by omega, by omega⟩, aTo_mk (weak_ren1 [1, 3, 8] ⟨(by decide), (by (first | ((simp only [envInR, tabInR, envLt, tabLt, AObj.lt, AV.lt, AV.ltL, AV.ren, AV.renL, AObj.ren, List.getD_cons_zero, List.getD_cons_succ, List.length_cons, List.length_nil, ruW, ASt.get, aget, ↓reduceIte, Nat.reduceLT, Nat.reduceEqDiff, Nat.reduceAdd, eq_self, List.map_append, List.length_append, List.length_map]) <;> (repeat' apply And.intro) <;> first | (rw [wrapK (by omega)]; done) | (simp; done) | omega) | fail))⟩) rfl⟩
          · refine callO (below_A (pars m) st hpl hpo) (.inr ints_plain) ?_
            (repeat' (first | simp (maxSteps := 5000000) (implicitDefEqProofs := false) only [ruA, ruB, aEv, aLen, ASt.get, aget, ASt.put, aAppend, aDst, aSrc, appTab, ↓reduceIte, Nat.reduceLT, Nat.reduceEqDiff, Nat.reduceAdd, Nat.reduceLeDiff, eq_self, ne_eq, aTakeE, aFresh, aMay, tyR_23, tyE_23] | (with_reducible refine aIf_split (fun _ => ?_) (fun _ => ?_)) | (with_reducible refine aSel_split (fun _ => ?_) (fun _ => ?_)) | (with_reducible refine aGd_split (fun _ => ?_) (fun _ => ?_))))
            exact ⟨⟨by omega, by omega⟩, aTo_mk (weak_ren1 [1, 3, 8] ⟨(by decide), (by (first | ((simp only [envInR, tabInR, envLt, tabLt, AObj.lt, AV.lt, AV.ltL, AV.ren, AV.renL, AObj.ren, List.getD_cons_zero, List.getD_cons_succ, List.length_cons, List.length_nil, ruW, ASt.get, aget, ↓reduceIte, Nat.reduceLT, Nat.reduceEqDiff, Nat.reduceAdd, eq_self, List.map_append, List.length_append, List.length_map]) <;> (repeat' apply And.intro) <;> first | (rw [wrapK (by omega)]; done) | (simp; done) | omega) | fail))⟩) rfl⟩
        · refine callO (parents_A m (by omega)) (.inr ints_plain) ?_
          (repeat' (first | simp (maxSteps := 5000000) (implicitDefEqProofs := false) only [ruA, ruB, aEv, ASt.get, aget, ASt.put, ↓reduceIte, Nat.reduceLT, Nat.reduceEqDiff, Nat.reduceAdd, eq_self] | (with_reducible refine aIf_split (fun _ => ?_) (fun _ => ?_)) | (with_reducible refine aSel_split (fun _ => ?_) (fun _ => ?_)) | (with_reducible refine aGd_split (fun _ => ?_) (fun _ => ?_))))
          refine callO (below_A (pars m) st hpl hpo) (.inr ints_plain) ?_
          (repeat' (first | simp (maxSteps := 5000000) (implicitDefEqProofs := false) only [ruA, ruB, aEv, aLen, ASt.get, aget, ASt.put, aAppend, aDst, aSrc, appTab, ↓reduceIte, Nat.reduceLT, Nat.reduceEqDiff, Nat.reduceAdd, Nat.reduceLeDiff, eq_self, ne_eq, aTakeE, aFresh, aMay, tyR_23, tyE_23] | (with_reducible refine aIf_split (fun _ => ?_) (fun _ => ?_)) | (with_reducible refine aSel_split (fun _ => ?_) (fun _ => ?_)) | (with_reducible refine aGd_split (fun _ => ?_) (fun _ => ?_))))
          exact ⟨⟨by omega, by omega⟩, aTo_mk (weak_ren1 [1, 3, 8] ⟨(by decide), (by (first | ((simp only [envInR, tabInR, envLt, tabLt, AObj.lt, AV.lt, AV.ltL, AV.ren, AV.renL, AObj.ren, List.getD_cons_zero, List.getD_cons_succ, List.length_cons, List.length_nil, ruW, ASt.get, aget, ↓reduceIte, Nat.reduceLT, Nat.reduceEqDiff, Nat.reduceAdd, eq_self, List.map_append, List.length_append, List.length_map]) <;> (repeat' apply And.intro) <;> first | (rw [wrapK (by omega)]; done) | (simp; done) | omega) | fail))⟩) rfl⟩
      · rintro _ rfl
        have eR : fireM m s (true, xn) = { s with don := withB s.don mi, opn := (belowL (pars m) st ++ [st]).foldl withoutB s.opn } := by
          subst hx
          simp at h
          simp [fireM, he, h]
        subst hx
        rw [eR]
        have hL : (belowL (pars m) st ++ [st]).length ≤ 1001 := by simp; omega
        generalize belowL (pars m) st ++ [st] = L at hL ⊢
        (repeat' (first | simp (maxSteps := 5000000) (implicitDefEqProofs := false) only [ruA] | (with_reducible refine aIf_split (fun _ => ?_) (fun _ => ?_)) | (with_reducible refine aSel_split (fun _ => ?_) (fun _ => ?_)) | (with_reducible refine aGd_split (fun _ => ?_) (fun _ => ?_))))
        refine aLoop_of (fun s' => ∃ k : Nat, k ≤ L.length ∧ s' = ⟨77, [(4, .op 0 0 0), (6, .op 1 0 0), (38, .osl 2), (39, eI (L.length : Int)), (40, eI (k : Int))], [(0, some (.box 51 (eSt { s with don := withB s.don mi, opn := (L.take k).foldl withoutB s.opn }))), (1, some (.box 51 [.c (.slice none 0 0), eI 0, eI 0, .c (.slice none 0 0), .c (.slice none 0 0)])), (2, some (.row 3 1 (L.map fun n => [eI n])))], 3⟩) (fun st => L.length - slotN st 40) ⟨_, (weak_cut1 (by (first | ((simp only [envIn, tabIn, envLt, tabLt, AObj.lt, AV.lt, AV.ltL, ruW, ASt.get, aget, ↓reduceIte, Nat.reduceLT, Nat.reduceEqDiff, eq_self, List.take_zero, List.foldl_nil]) <;> (repeat' apply And.intro) <;> first | (rw [wrapK (by omega)]; done) | (simp; done) | omega) | fail))), 0, Nat.zero_le _, rfl⟩ ?_
        rintro _ ⟨k, hk, rfl⟩
        by_cases hlt : k < L.length
        · have ef := fold_snoc withoutB s.opn L hlt
          (repeat' (first | simp (maxSteps := 5000000) (implicitDefEqProofs := false) only [ruA, ruB, aEv, aTake, aLoad, aField, aIndex, aBin, bin2, ASt.get, aget, ASt.put, ↓reduceIte, reduceCtorEq, Nat.reduceLT, Nat.reduceEqDiff, Nat.reduceAdd, Nat.reduceLeDiff, eq_self, tyA_3, tyS_3, tyE_23, tyF_51_1, row_at, hlt] | (with_reducible refine aIf_split (fun _ => ?_) (fun _ => ?_)) | (with_reducible refine aSel_split (fun _ => ?_) (fun _ => ?_)) | (with_reducible refine aGd_split (fun _ => ?_) (fun _ => ?_))))
          refine callV (without_A _ _) ?_
          (repeat' (first | simp (maxSteps := 5000000) (implicitDefEqProofs := false) only [ruA, ruB, aEv, aField, aBin, bin2, ASt.get, aget, ASt.put, aStore, aCells, oneC, oneCL, Value.cells, Value.oneCell', ↓reduceIte, Nat.reduceLT, Nat.reduceEqDiff, Nat.reduceAdd, Nat.reduceLeDiff, eq_self, tyS_3, tyF_51_1] | (with_reducible refine aIf_split (fun _ => ?_) (fun _ => ?_)) | (with_reducible refine aSel_split (fun _ => ?_) (fun _ => ?_)) | (with_reducible refine aGd_split (fun _ => ?_) (fun _ => ?_))))
          exact roundI (weak_cut1 (by (first | ((simp only [envIn, tabIn, envLt, tabLt, AObj.lt, AV.lt, AV.ltL, ruW, ASt.get, aget, ↓reduceIte, Nat.reduceLT, Nat.reduceEqDiff, eq_self, ef]) <;> (repeat' apply And.intro) <;> first | (rw [wrapK (by omega)]; done) | (simp; done) | omega) | fail))) ⟨k + 1, by omega, rfl⟩ (by simp only [slotN, ruW, ASt.get, aget, ↓reduceIte, Nat.reduceLT, Nat.reduceEqDiff, eq_self]; omega)
        · obtain rfl : k = L.length := by omega
          (repeat' (first | simp (maxSteps := 5000000) (implicitDefEqProofs := false) only [ruA, ruB, aEv, aTake, aLoad, aBin, bin2, ASt.get, aget, ASt.put, aStore, aCells, oneC, oneCL, Value.oneCell', aResL, aOne, ↓reduceIte, Nat.reduceLT, Nat.reduceEqDiff, Nat.reduceAdd, eq_self, tyA_51, tyS_51, hlt] | (with_reducible refine aIf_split (fun _ => ?_) (fun _ => ?_)) | (with_reducible refine aSel_split (fun _ => ?_) (fun _ => ?_)) | (with_reducible refine aGd_split (fun _ => ?_) (fun _ => ?_))))
          exact gives_tree (by simp only [AV.ren, AV.renL])
    · rename_i h hx
      refine callV (with_A _ _) ?_
      (repeat' (first | simp (maxSteps := 5000000) (implicitDefEqProofs := false) only [ruA, ruB, aEv, aTake, aLoad, aField, aLen, ASt.get, aget, ASt.put, aStore, aCells, oneC, oneCL, Value.cells, Value.oneCell', ↓reduceIte, reduceCtorEq, Nat.reduceLT, Nat.reduceEqDiff, Nat.reduceAdd, Nat.reduceLeDiff, eq_self, ne_eq, tyS_3, tyF_51_1, tyF_43_7, tyA_39, tyS_39, tyE_39] | (with_reducible refine aIf_split (fun _ => ?_) (fun _ => ?_)) | (with_reducible refine aSel_split (fun _ => ?_) (fun _ => ?_)) | (with_reducible refine aGd_split (fun _ => ?_) (fun _ => ?_))))
      have eR : fireM m s (false, xn) = { s with opn := withB s.opn st, don := undo m.miles st s.don m.miles.length } := by
        subst hx
        simp at h
        simp [fireM, he, h]
      subst hx
      rw [eR]
      refine aLoop_of (fun s' => ∃ k : Nat, k ≤ m.miles.length ∧ s' = ⟨77, [(4, .op 0 0 0), (6, .op 1 0 0), (7, .op 2 0 0), (58, .sl 5 (m.miles.map eMl)), (59, eI (m.miles.length : Int)), (60, eI (k : Int))], [(0, some (.box 51 (eSt { s with opn := withB s.opn st, don := undo m.miles st s.don k }))), (1, some (.box 51 [.c (.slice none 0 0), eI 0, eI 0, .c (.slice none 0 0), .c (.slice none 0 0)])), (2, some (.box 110 [eI st, eI ev, sInsts cond, eI mi]))], 3⟩) (fun st => m.miles.length - slotN st 60) ⟨_, (weak_ren1 [1, 3, 4] ⟨(by decide), (by (first | ((simp only [envInR, tabInR, envLt, tabLt, AObj.lt, AV.lt, AV.ltL, AV.ren, AV.renL, AObj.ren, List.getD_cons_zero, List.getD_cons_succ, List.length_cons, List.length_nil, ruW, ASt.get, aget, ↓reduceIte, Nat.reduceLT, Nat.reduceEqDiff, Nat.reduceAdd, eq_self, undo]) <;> (repeat' apply And.intro) <;> first | (rw [wrapK (by omega)]; done) | (simp; done) | omega) | fail))⟩), 0, Nat.zero_le _, rfl⟩ ?_
      rintro _ ⟨k, hk, rfl⟩
      by_cases hlt : k < m.miles.length
      · (repeat' (first | simp (maxSteps := 5000000) (implicitDefEqProofs := false) only [ruA, ruB, aEv, aTake, aLoad, aField, aIndex, aBin, bin2, ASt.get, aget, ASt.put, aStore, aBox, aCells, oneC, oneCL, Value.cells, Value.oneCell', ↓reduceIte, reduceCtorEq, Nat.reduceLT, Nat.reduceEqDiff, Nat.reduceAdd, Nat.reduceLeDiff, eq_self, tyF_51_2, tyA_3, tyS_3, tyF_110_0, tyE_39, tyA_120, tyS_120, tyZ_120, tyF_120_1, row_at, hlt] | (with_reducible refine aIf_split (fun _ => ?_) (fun _ => ?_)) | (with_reducible refine aSel_split (fun _ => ?_) (fun _ => ?_)) | (with_reducible refine aGd_split (fun _ => ?_) (fun _ => ?_))))
        · rename_i hq
          have eu : undo m.miles st s.don (k + 1) = withoutB (undo m.miles st s.don k) (k : Int) := by
            have : m.miles[k].stage = st := by simpa using hq
            simp [undo, hlt, this]
          refine callV (without_A _ _) ?_
          (repeat' (first | simp (maxSteps := 5000000) (implicitDefEqProofs := false) only [ruA, ruB, aEv, aField, aBin, bin2, ASt.get, aget, ASt.put, aStore, aCells, oneC, oneCL, Value.cells, Value.oneCell', ↓reduceIte, reduceCtorEq, Nat.reduceLT, Nat.reduceEqDiff, Nat.reduceAdd, Nat.reduceLeDiff, eq_self, tyF_51_2, tyS_3] | (with_reducible refine aIf_split (fun _ => ?_) (fun _ => ?_)) | (with_reducible refine aSel_split (fun _ => ?_) (fun _ => ?_)) | (with_reducible refine aGd_split (fun _ => ?_) (fun _ => ?_))))
          exact roundI (weak_cut1 (by (first | ((simp only [envIn, tabIn, envLt, tabLt, AObj.lt, AV.lt, AV.ltL, ruW, ASt.get, aget, ↓reduceIte, Nat.reduceLT, Nat.reduceEqDiff, eq_self, eu]) <;> (repeat' apply And.intro) <;> first | (rw [wrapK (by omega)]; done) | (simp; done) | omega) | fail))) ⟨k + 1, by omega, rfl⟩ (by simp only [slotN, ruW, ASt.get, aget, ↓reduceIte, Nat.reduceLT, Nat.reduceEqDiff, eq_self]; omega)
        · rename_i hq
          have eu : undo m.miles st s.don (k + 1) = undo m.miles st s.don k := by
            have : m.miles[k].stage ≠ st := by simpa using hq
            simp [undo, hlt, this]
          exact roundI (weak_cut1 (by (first | ((simp only [envIn, tabIn, envLt, tabLt, AObj.lt, AV.lt, AV.ltL, ruW, ASt.get, aget, ↓reduceIte, reduceCtorEq, Nat.reduceLT, Nat.reduceEqDiff, eq_self, eu]) <;> (repeat' apply And.intro) <;> first | (rw [wrapK (by omega)]; done) | (simp; done) | omega) | fail))) ⟨k + 1, by omega, rfl⟩ (by simp only [slotN, ruW, ASt.get, aget, ↓reduceIte, Nat.reduceLT, Nat.reduceEqDiff, eq_self]; omega)
      · obtain rfl : k = m.miles.length := by omega
        (repeat' (first | simp (maxSteps := 5000000) (implicitDefEqProofs := false) only [ruA, ruB, aEv, aTake, aLoad, aBin, bin2, ASt.get, aget, ASt.put, aStore, aCells, oneC, oneCL, Value.oneCell', aResL, aOne, ↓reduceIte, Nat.reduceLT, Nat.reduceEqDiff, Nat.reduceAdd, eq_self, tyA_51, tyS_51, hlt] | (with_reducible refine aIf_split (fun _ => ?_) (fun _ => ?_)) | (with_reducible refine aSel_split (fun _ => ?_) (fun _ => ?_)) | (with_reducible refine aGd_split (fun _ => ?_) (fun _ => ?_))))
        exact gives_tree (by simp only [AV.ren, AV.renL])
end
section
open Go.RowKit

def turnM (m : Mod) (event : Int) (s : St) (x : Bool × Int) : St := if firesM m s x event = true then fireM m s x else s
def passM (m : Mod) (event : Int) (s : St) (k : Nat) : St := (m.order.take k).foldl (turnM m event) s
theorem fireM_vals (m : Mod) (s : St) (x : Bool × Int) : (fireM m s x).vals = s.vals ∧ (fireM m s x).did = s.did ∧ (fireM m s x).cnt = s.cnt := by
  unfold fireM
  split
  · split
    · split <;> simp
    · simp
  · simp
theorem turnM_vals (m : Mod) (event : Int) (s : St) (x : Bool × Int) : (turnM m event s x).vals = s.vals ∧ (turnM m event s x).did = s.did ∧ (turnM m event s x).cnt = s.cnt := by
  unfold turnM
  split
  · exact fireM_vals m s x
  · simp
theorem fold_vals (m : Mod) (event : Int) : ∀ (l : List (Bool × Int)) (s : St), (l.foldl (turnM m event) s).vals = s.vals ∧ (l.foldl (turnM m event) s).did = s.did ∧ (l.foldl (turnM m event) s).cnt = s.cnt
  | [], s => by simp
  | x :: l, s => by
    have h := fold_vals m event l (turnM m event s x)
    have h2 := turnM_vals m event s x
    simp [h, h2]
set_option maxRecDepth 100000 in
set_option maxHeartbeats 4000000 in
theorem pass_A (m : Mod) (s : St) (event : Int) (hf : Fit m) (hc : condOk m) (hp : ∀ p ∈ m.stages, ok64 p.2) (hs : ∀ x ∈ s.vals, ok64 x) : ADet Tryz.prog 33 [.agg (eMod m), .agg (eSt s), eI event] ⟨.agg (eSt (passM m event s m.order.length)), [], 0⟩ := by
  refine adet_of_code mixedT Tryz.func33 rfl (by decide) Tryz.ntmps33 Tryz.results33 rfl (⟨fun id o h => (by cases h), ⟨trivial, trivial, trivial, trivial, trivial, trivial⟩⟩) ?_
  (repeat' (first | simp (maxSteps := 5000000) (implicitDefEqProofs := false) only [ruA, ruB, aEv, aTake, aLoad, aField, aLen, ASt.get, aget, ASt.put, aBox, aCells, oneC, oneCL, Value.cells, Value.oneCell', envOf, ↓reduceIte, reduceCtorEq, Nat.reduceLT, Nat.reduceEqDiff, Nat.reduceAdd, eq_self, ne_eq, tyZ_51, tyF_43_9, tyA_41, tyS_41, tyE_41] | (with_reducible refine aIf_split (fun _ => ?_) (fun _ => ?_)) | (with_reducible refine aSel_split (fun _ => ?_) (fun _ => ?_)) | (with_reducible refine aGd_split (fun _ => ?_) (fun _ => ?_))))
  have hol : m.order.length ≤ 40 := hf.sizes.2.2.2.2.2.2.2.2.1
  have e0 : passM m event s 0 = s := rfl
  refine aLoop_of (fun s' => ∃ k : Nat, k ≤ m.order.length ∧ s' = ⟨31, [(2, eI event), (3, .op 0 0 0), (4, .op 1 0 0), (6, .op 2 0 0), (11, eI (m.order.length : Int)), (12, eI (k : Int))], [(0, some (.box 43 (eMod m))), (1, some (.box 51 (eSt (passM m event s k)))), (2, some (.box 51 [.c (.slice none 0 0), eI 0, eI 0, .c (.slice none 0 0), .c (.slice none 0 0)]))], 3⟩) (fun st => m.order.length - slotN st 12) ⟨_, (weak_cut1 (by (first | ((simp only [envIn, tabIn, envLt, tabLt, AObj.lt, AV.lt, AV.ltL, ruW, ASt.get, aget, ↓reduceIte, reduceCtorEq, Nat.reduceLT, Nat.reduceEqDiff, eq_self, e0]) <;> (repeat' apply And.intro) <;> first | (rw [wrapK (by omega)]; done) | (simp; done) | omega) | fail))), 0, Nat.zero_le _, rfl⟩ ?_
  rintro _ ⟨k, hk, rfl⟩
  by_cases hlt : k < m.order.length
  · have ef : passM m event s (k + 1) = turnM m event (passM m event s k) m.order[k] := fold_snoc _ _ _ hlt
    have hv := fold_vals m event (m.order.take k) s
    have hs' : ∀ x ∈ (passM m event s k).vals, ok64 x := by
      unfold passM
      rw [hv.1]
      exact hs
    (repeat' (first | simp (maxSteps := 5000000) (implicitDefEqProofs := false) only [ruA, ruB, aEv, aTake, aLoad, aField, aIndex, aBin, bin2, ASt.get, aget, ASt.put, aStore, aBox, aCells, oneC, oneCL, Value.cells, Value.oneCell', ↓reduceIte, reduceCtorEq, Nat.reduceLT, Nat.reduceEqDiff, Nat.reduceAdd, eq_self, tyA_51, tyS_51, tyF_43_9, tyA_41, tyS_41, tyE_41, tyA_98, tyS_98, tyZ_98, tyA_43, tyS_43, row_at, hlt] | (with_reducible refine aIf_split (fun _ => ?_) (fun _ => ?_)) | (with_reducible refine aSel_split (fun _ => ?_) (fun _ => ?_)) | (with_reducible refine aGd_split (fun _ => ?_) (fun _ => ?_))))
    generalize passM m event s k = t at ef hs' ⊢
    generalize m.order[k] = x at ef ⊢
    refine callV (fires_A m t x.1 x.2 event hf hc hs') ?_
    (repeat' (first | simp (maxSteps := 5000000) (implicitDefEqProofs := false) only [ruA, ruB, aEv, aTake, aLoad, aBin, bin2, ASt.get, aget, ASt.put, ↓reduceIte, reduceCtorEq, Nat.reduceLT, Nat.reduceEqDiff, Nat.reduceAdd, eq_self, tyA_51, tyS_51, tyA_98, tyS_98, tyA_43, tyS_43] | (with_reducible refine aIf_split (fun _ => ?_) (fun _ => ?_)) | (with_reducible refine aSel_split (fun _ => ?_) (fun _ => ?_)) | (with_reducible refine aGd_split (fun _ => ?_) (fun _ => ?_))))
    · rename_i h
      have e1 : turnM m event t x = fireM m t x := if_pos h
      rw [e1] at ef
      refine callT (fire_A m t x.1 x.2 hf hp) (.inl (by simp [roL, roA, treeL, treeC])) ?_
      (repeat' (first | simp (maxSteps := 5000000) (implicitDefEqProofs := false) only [ruA, ruB, aEv, aBin, bin2, ASt.get, aget, ASt.put, aStore, aCells, oneC, oneCL, Value.oneCell', ↓reduceIte, Nat.reduceLT, Nat.reduceEqDiff, Nat.reduceAdd, eq_self, AV.shift, AV.shiftL, tyS_51] | (with_reducible refine aIf_split (fun _ => ?_) (fun _ => ?_)) | (with_reducible refine aSel_split (fun _ => ?_) (fun _ => ?_)) | (with_reducible refine aGd_split (fun _ => ?_) (fun _ => ?_))))
      exact roundI (weak_cut1 (by (first | ((simp only [envIn, tabIn, envLt, tabLt, AObj.lt, AV.lt, AV.ltL, ruW, ASt.get, aget, ↓reduceIte, reduceCtorEq, Nat.reduceLT, Nat.reduceEqDiff, eq_self, ef]) <;> (repeat' apply And.intro) <;> first | (rw [wrapK (by omega)]; done) | (simp; done) | omega) | fail))) ⟨k + 1, by omega, rfl⟩ (by simp only [slotN, ruW, ASt.get, aget, ↓reduceIte, Nat.reduceLT, Nat.reduceEqDiff, eq_self]; omega)
    · rename_i h
      have e1 : turnM m event t x = t := if_neg (by rw [show (x : Bool × Int) = (x.1, x.2) from rfl, h]; simp)
      rw [e1] at ef
      exact roundI (weak_cut1 (by (first | ((simp only [envIn, tabIn, envLt, tabLt, AObj.lt, AV.lt, AV.ltL, ruW, ASt.get, aget, ↓reduceIte, reduceCtorEq, Nat.reduceLT, Nat.reduceEqDiff, eq_self, ef]) <;> (repeat' apply And.intro) <;> first | (rw [wrapK (by omega)]; done) | (simp; done) | omega) | fail))) ⟨k + 1, by omega, rfl⟩ (by simp only [slotN, ruW, ASt.get, aget, ↓reduceIte, Nat.reduceLT, Nat.reduceEqDiff, eq_self]; omega)
  · obtain rfl : k = m.order.length := by omega
    (repeat' (first | simp (maxSteps := 5000000) (implicitDefEqProofs := false) only [ruA, ruB, aEv, aTake, aLoad, aBin, bin2, ASt.get, aget, ASt.put, aStore, aCells, oneC, oneCL, Value.oneCell', aResL, aOne, ↓reduceIte, Nat.reduceLT, Nat.reduceEqDiff, Nat.reduceAdd, eq_self, tyA_51, tyS_51, hlt] | (with_reducible refine aIf_split (fun _ => ?_) (fun _ => ?_)) | (with_reducible refine aSel_split (fun _ => ?_) (fun _ => ?_)) | (with_reducible refine aGd_split (fun _ => ?_) (fun _ => ?_))))
    exact gives_tree (by simp only [AV.ren, AV.renL])
end
section
open Go.RowKit
theorem stOk (s : St) : (⟨.agg (eSt s), [], 0⟩ : Res).Ok := ⟨fun id o h => (by cases h), ⟨trivial, trivial, trivial, trivial, trivial, trivial⟩⟩
end
section
open Go.RowKit
def allN (f : Nat → Bool) : Nat → Bool
  | 0 => true
  | n + 1 => allN f n && f n
theorem allN_iff (f : Nat → Bool) : ∀ n, allN f n = true ↔ ∀ i, i < n → f i = true
  | 0 => by simp [allN]
  | n + 1 => by
    rw [allN, Bool.and_eq_true, allN_iff f n]
    constructor
    · intro ⟨h1, h2⟩ i hi
      rcases Nat.lt_or_ge i n with h | h
      · exact h1 i h
      · obtain rfl : i = n := by omega
        exact h2
    · exact fun h => ⟨fun i hi => h i (by omega), h n (by omega)⟩
theorem allN_no {f : Nat → Bool} {k n : Nat} (hk : k < n) (h : f k = false) : allN f n = false := by
  rw [Bool.eq_false_iff]
  intro h2
  rw [(allN_iff f n).1 h2 k hk] at h
  cases h
theorem allN_step {f : Nat → Bool} {k : Nat} (h1 : allN f k = true) (h : f k = true) : allN f (k + 1) = true := by simp [allN, h1, h]
/-- the set of so many -/
def firstI (n : Int) : Int := 2 ^ (max 0 (min n 31)).toNat - 1
theorem first_A (n : Int) : ADet Tryz.prog 51 [eI n] (val (.int .i64 (firstI n))) := by
  refine adet_of_code mixedT Tryz.func51 rfl (by decide) Tryz.ntmps51 Tryz.results51 rfl (val_ok _) ?_
  have h0 : ¬ (max 0 (min n 31) < 0) := by omega
  have h2 : (max 0 (min n 31)).toNat ≤ 31 := by omega
  have h1 : min (max 0 (min n 31)).toNat IntKind.i64.bits = (max 0 (min n 31)).toNat := by
    have : IntKind.i64.bits = 64 := rfl
    omega
  have hp : (1 : Int) ≤ 2 ^ (max 0 (min n 31)).toNat ∧ (2 : Int) ^ (max 0 (min n 31)).toNat ≤ 2147483648 := by
    have h3 : 2 ^ (max 0 (min n 31)).toNat ≤ 2 ^ 31 := Nat.pow_le_pow_right (by omega) h2
    have h4 : 1 ≤ 2 ^ (max 0 (min n 31)).toNat := Nat.one_le_two_pow
    have e : (2 : Int) ^ (max 0 (min n 31)).toNat = ((2 ^ (max 0 (min n 31)).toNat : Nat) : Int) := by simp
    rw [e]
    omega
  have w1 : IntKind.i64.wrap (1 * 2 ^ (max 0 (min n 31)).toNat) = 2 ^ (max 0 (min n 31)).toNat := by
    rw [Int.one_mul]
    exact wrap_in (by omega) (by omega)
  have w2 : IntKind.i64.wrap (2 ^ (max 0 (min n 31)).toNat - 1) = 2 ^ (max 0 (min n 31)).toNat - 1 := wrap_in (by omega) (by omega)
  unfold firstI
  (repeat' (first | simp (maxSteps := 5000000) (implicitDefEqProofs := false) only [ruA, aEv, aBin, bin2, ASt.get, aget, ASt.put, envOf, aResL, aOne, ↓reduceIte, reduceCtorEq, Nat.reduceLT, eq_self, aMM, h0, h1, w1, w2] | (with_reducible refine aIf_split (fun _ => ?_) (fun _ => ?_)) | (with_reducible refine aSel_split (fun _ => ?_) (fun _ => ?_)) | (with_reducible refine aGd_split (fun _ => ?_) (fun _ => ?_))))
def ofB (s n : Int) : Bool := decide (0 ≤ s) && decide (s ≤ firstI n)
theorem of_A (s n : Int) : ADet Tryz.prog 35 [eI s, eI n] (val (.bool (ofB s n))) := by
  refine adet_of_code mixedT Tryz.func35 rfl (by decide) Tryz.ntmps35 Tryz.results35 rfl (val_ok _) ?_
  unfold ofB
  (repeat' (first | simp (maxSteps := 5000000) (implicitDefEqProofs := false) only [ruA, ruB, aEv, aBin, bin2, ASt.get, aget, ASt.put, envOf, aResL, aOne, ↓reduceIte, reduceCtorEq, Nat.reduceLT, Nat.reduceEqDiff, eq_self] | (with_reducible refine aIf_split (fun _ => ?_) (fun _ => ?_)) | (with_reducible refine aSel_split (fun _ => ?_) (fun _ => ?_)) | (with_reducible refine aGd_split (fun _ => ?_) (fun _ => ?_)) | (with_reducible refine aDraw_quiet (by kernel_rfl) ?_) | ((with_reducible apply callV (g := 51)); exact (first_A _)) | ((with_reducible apply callD (g := 51)); exact (first_A _))))
  all_goals simp [*]
def chkAt (m : Mod) (s : St) (i : Nat) : Bool := ofB (s.did.getD i 0) m.users.length && decide (0 ≤ s.cnt.getD i 0) && decide (s.cnt.getD i 0 ≤ (m.events[i]?.map (·.times)).getD 0)
def chkS (m : Mod) (s : St) : Bool := decide (s.vals.length = m.attrs.length) && decide (s.did.length = m.events.length) && decide (s.cnt.length = m.events.length) && ofB s.opn m.stages.length && ofB s.don m.miles.length && allN (chkAt m s) m.events.length
set_option maxRecDepth 100000 in
set_option maxHeartbeats 8000000 in
theorem checkS_A (m : Mod) (s : St) (hl : m.events.length ≤ 1000000) : ADet Tryz.prog 22 [.agg (eMod m), .agg (eSt s)] (val (.bool (chkS m s))) := by
  refine adet_of_code mixedT Tryz.func22 rfl (by decide) Tryz.ntmps22 Tryz.results22 rfl (val_ok _) ?_
  (repeat' (first | simp (maxSteps := 5000000) (implicitDefEqProofs := false) only [ruA, ruB, aEv, aTake, aLoad, aField, aLen, aBin, bin2, aUn, un1, ASt.get, aget, ASt.put, aBox, aCells, oneC, oneCL, Value.oneCell', envOf, aResL, aOne, ↓reduceIte, reduceCtorEq, Nat.reduceLT, Nat.reduceEqDiff, Nat.reduceAdd, Nat.reduceLeDiff, eq_self, ne_eq, tyF_43_5, tyA_37, tyS_37, tyE_37, tyF_51_0, tyA_34, tyS_34, tyE_34, tyF_43_0, tyA_33, tyS_33, tyE_33, tyF_51_3, tyA_23, tyS_23, tyE_23, tyF_51_4, tyF_51_1, tyA_3, tyS_3, tyF_43_4, tyA_36, tyS_36, tyE_36, tyF_51_2, tyF_43_7, tyA_39, tyS_39, tyE_39] | (with_reducible refine aIf_split (fun _ => ?_) (fun _ => ?_)) | (with_reducible refine aSel_split (fun _ => ?_) (fun _ => ?_)) | (with_reducible refine aGd_split (fun _ => ?_) (fun _ => ?_)) | (with_reducible refine aDraw_quiet (by kernel_rfl) ?_) | ((with_reducible apply callV (g := 35)); exact (of_A _ _)) | ((with_reducible apply callD (g := 35)); exact (of_A _ _))))
  all_goals first
    | (symm; unfold chkS; grind)
    | skip
  rename_i h1 h2 h3 h4 h5
  have h2 : s.did.length = m.events.length := by simp at h2; omega
  have h3 : s.cnt.length = m.events.length := by simp at h3; omega
  have hall : chkS m s = allN (chkAt m s) m.events.length := by unfold chkS; grind
  rw [hall]
  refine aLoop_of (fun st => ∃ k : Nat, k ≤ m.events.length ∧ allN (chkAt m s) k = true ∧ st = ⟨87, [(2, .op 0 0 0), (3, .op 1 0 0), (51, .sl 5 (m.events.map eEv)), (52, eI (m.events.length : Int)), (53, eI (k : Int))], [(0, some (.box 43 (eMod m))), (1, some (.box 51 (eSt s)))], 2⟩) (fun st => m.events.length - slotN st 53) ⟨_, (weak_cut1 (by (first | ((simp only [envIn, tabIn, envLt, tabLt, AObj.lt, AV.lt, AV.ltL, ruW, ASt.get, aget, ↓reduceIte, reduceCtorEq, Nat.reduceLT, Nat.reduceEqDiff, eq_self]) <;> (repeat' apply And.intro) <;> first | (rw [wrapK (by omega)]; done) | (simp; done) | omega) | fail))), 0, Nat.zero_le _, rfl, rfl⟩ ?_
  rintro _ ⟨k, hk, hI, rfl⟩
  by_cases hlt : k < m.events.length
  · have hd : k < s.did.length := by omega
    have hc : k < s.cnt.length := by omega
    have eF : chkAt m s k = (ofB s.did[k] m.users.length && decide (0 ≤ s.cnt[k]) && decide (s.cnt[k] ≤ m.events[k].times)) := by simp [chkAt, hd, hc, hlt]
    (repeat' (first | simp (maxSteps := 5000000) (implicitDefEqProofs := false) only [ruA, ruB, aEv, aTake, aLoad, aField, aIndex, aLen, aBin, bin2, aUn, un1, ASt.get, aget, ASt.put, aStore, aBox, aCells, oneC, oneCL, Value.cells, Value.oneCell', aResL, aOne, ↓reduceIte, reduceCtorEq, Nat.reduceLT, Nat.reduceEqDiff, Nat.reduceAdd, Nat.reduceLeDiff, eq_self, ne_eq, dref, tyE_37, tyA_33, tyS_33, tyE_33, tyF_51_3, tyA_23, tyS_23, tyE_23, tyF_51_4, tyA_3, tyS_3, tyA_74, tyS_74, tyZ_74, tyF_43_2, tyF_74_4, row_at, hlt, hd, hc] | (with_reducible refine aIf_split (fun _ => ?_) (fun _ => ?_)) | (with_reducible refine aSel_split (fun _ => ?_) (fun _ => ?_)) | (with_reducible refine aGd_split (fun _ => ?_) (fun _ => ?_)) | (with_reducible refine aDraw_quiet (by kernel_rfl) ?_) | ((with_reducible apply callV (g := 35)); exact (of_A _ _)) | ((with_reducible apply callD (g := 35)); exact (of_A _ _))))
    all_goals first
      | (symm; refine allN_no hlt ?_; rw [eF]; grind)
      | exact roundI (weak_cut1 (by (first | ((simp only [envIn, tabIn, envLt, tabLt, AObj.lt, AV.lt, AV.ltL, ruW, ASt.get, aget, ↓reduceIte, reduceCtorEq, Nat.reduceLT, Nat.reduceEqDiff, eq_self]) <;> (repeat' apply And.intro) <;> first | (rw [wrapK (by omega)]; done) | (simp; done) | omega) | fail))) ⟨k + 1, by omega, allN_step hI (by rw [eF]; grind), rfl⟩ (by simp only [slotN, ruW, ASt.get, aget, ↓reduceIte, Nat.reduceLT, Nat.reduceEqDiff, eq_self]; omega)
  · obtain rfl : k = m.events.length := by omega
    (repeat' (first | simp (maxSteps := 5000000) (implicitDefEqProofs := false) only [ruA, ruB, aEv, aBin, bin2, ASt.get, aget, ASt.put, aResL, aOne, ↓reduceIte, Nat.reduceLT, Nat.reduceEqDiff, eq_self, hlt] | (with_reducible refine aIf_split (fun _ => ?_) (fun _ => ?_)) | (with_reducible refine aSel_split (fun _ => ?_) (fun _ => ?_)) | (with_reducible refine aGd_split (fun _ => ?_) (fun _ => ?_)) | (with_reducible refine aDraw_quiet (by kernel_rfl) ?_)))
    exact hI.symm
end
section
open Go.RowKit
section
variable {P : Program} {f : FuncId} {args : List AV}
theorem res_frz {cx : Cx} {w' : World} {L : Nat → Value} {v : Value} {R : Res} (h5 : R.Ok) (h7 : Lay cx w' R.tab L) (h8 : RVx cx w' R.tab L v R.r) (id : Nat) : (R.frz id).Ok ∧ Lay cx w' (R.frz id).tab L ∧ RVx cx w' (R.frz id).tab L v (R.frz id).r := by
  unfold Res.frz
  split
  · rename_i e' sz rows hid
    obtain ⟨h9, h10⟩ := frz_core h7 (fun k o hk => (h5.young k o hk).2) hid
    refine ⟨⟨fun k o hk => ?_, frz_lt h5.lt⟩, h9, h10 v _ h8 h5.lt⟩
    simp only [ATab.get_cons, frzTab_get] at hk
    split at hk
    · cases hk
    · cases hg : R.tab.get k with
      | none => simp [hg] at hk
      | some o' =>
        simp [hg] at hk
        subst hk
        exact ⟨(h5.young k o' hg).1, frz_obj_lt (h5.young k o' hg).2⟩
  · exact ⟨h5, h7, h8⟩
theorem res_frzs {cx : Cx} {w' : World} {L : Nat → Value} {v : Value} : ∀ (ids : List Nat) {R : Res}, R.Ok → Lay cx w' R.tab L → RVx cx w' R.tab L v R.r → (R.frzs ids).Ok ∧ Lay cx w' (R.frzs ids).tab L ∧ RVx cx w' (R.frzs ids).tab L v (R.frzs ids).r
  | [], R, h1, h2, h3 => ⟨h1, h2, h3⟩
  | id :: ids, R, h1, h2, h3 => by
    obtain ⟨h4, h5, h6⟩ := res_frz h1 h2 h3 id
    exact res_frzs ids h4 h5 h6
inductive FitsT : AV → AV → Prop
  | one {a b : AV} (h : FitsA a b) : FitsT a b
  | tup {l l' : List AV} (h : FitsAs l l') : FitsT (.tup l) (.tup l')
theorem rt_of_rv {w : World} {S : Nat → Prop} {K : Nat → Option (Nat × Value)} {x : Value} {av : AV} (h : RV w S K x av) : av.lt 0 → RT w S x av := by
  induction h with
  | tree h => exact fun _ => h
  | osl x id h => exact fun h2 => by simp [AV.lt] at h2
  | op x id i j h => exact fun h2 => by simp [AV.lt] at h2
  | agg xs cs hn hr ih =>
    intro h2
    simp only [AV.lt] at h2
    exact .agg xs cs hn fun j x av h3 h4 => ih j x av h3 h4 (ltL_iff.1 h2 av (List.mem_of_getElem? h4))
  | tup xs cs hn hr ih =>
    intro h2
    simp only [AV.lt] at h2
    exact .tup xs cs hn fun j x av h3 h4 => ih j x av h3 h4 (ltL_iff.1 h2 av (List.mem_of_getElem? h4))
  | fn f xs cs hn hr ih =>
    intro h2
    simp only [AV.lt] at h2
    exact .fn f xs cs hn fun j x av h3 h4 => ih j x av h3 h4 (ltL_iff.1 h2 av (List.mem_of_getElem? h4))
theorem RT.tup_inv {w : World} {S : Nat → Prop} {x : Value} {cs : List AV} (h : RT w S x (.tup cs)) : ∃ xs : Array Value, x = .tuple xs ∧ xs.size = cs.length ∧ ∀ (j : Nat) (x : Value) (av : AV), xs[j]? = some x → cs[j]? = some av → RT w S x av := by
  cases h with
  | tup xs _ hn hr => exact ⟨xs, rfl, hn, hr⟩
theorem FitsT.rt {w : World} {S : Nat → Prop} {v : Value} {a b : AV} (h : FitsT a b) (hr : RT w S v a) : RT w S v b := by
  cases h with
  | one h => exact h.rt hr
  | @tup l l' h =>
    obtain ⟨xs, rfl, hn, hx⟩ := hr.tup_inv
    obtain ⟨h1, h2⟩ := h.spec
    refine .tup xs l' (by omega) fun j x av h3 h4 => ?_
    have hj : j < l.length := by
      have := (List.getElem?_eq_some_iff.1 h4).1
      omega
    have h5 : l[j]? = some l[j] := List.getElem?_eq_getElem hj
    exact (h2 j _ av h5 h4).rt (hx j x _ h3 h5)
theorem tab_ok {R : Res} (h1 : tabLt R.n R.tab) (h2 : R.r.lt R.n) : R.Ok := by
  refine ⟨?_, h2⟩
  revert h1
  generalize R.tab = T
  induction T with
  | nil => exact fun _ id o h => by cases h
  | cons p T ih =>
    obtain ⟨k, ob⟩ := p
    intro h1 id o h
    rw [ATab.get_cons] at h
    cases ob with
    | none =>
      simp only [tabLt] at h1
      split at h
      · cases h
      · exact ih h1 id o h
    | some ob =>
      simp only [tabLt] at h1
      split at h
      · rename_i e
        cases h
        exact ⟨by rw [e]; exact h1.1.1, h1.1.2⟩
      · exact ih h1.2 id o h
/-- an answer that nobody writes any more -/
theorem ARel.tree {Post : Res → Prop} {r' : AV} (h : ARel P f args Post) (hl : r'.lt 0) (hp : ∀ R, Post R → ∃ ids, (R.frzs ids).r.lt 0 ∧ FitsT (R.frzs ids).r r') : ADet P f args ⟨r', [], 0⟩ :=
  ⟨h.1, fun S w vs h1 h2 h3 => (h.2 S w vs h1 h2 h3).mono fun e w' ⟨v, L, R, h4, h5, h6, h7, h8⟩ => by
    obtain ⟨ids, ha, hc⟩ := hp R h4
    obtain ⟨h9, h10, h11⟩ := res_frzs ids h5 h7 h8
    have hext : Ext (Cx.mk0 S w h1) w' (R.frzs ids).tab L 0 w' [] L := ⟨fun _ _ => rfl, fun b hb => ⟨hb.1, hb.2.1, fun k o hk => (by cases hk)⟩, fun k p _ hk => by simp [Kx, ATab.get] at hk⟩
    have h12 := rt_of_rv (hext.rv h11 ha) ha
    exact ⟨v, L, ⟨r', [], 0⟩, rfl, ⟨fun id o hk => (by cases hk), hl⟩, h6, ⟨h10.below, fun id o hk => (by cases hk), fun id id' o o' g hk => (by cases hk), fun b hb => hb.elim⟩, .tree (hc.rt h12)⟩⟩
end
/-- a slice of the call's own, or nil for nothing -/
theorem adet_own_nil {P : Program} {f : FuncId} {args : List AV} {e : TypeId} {sz : Nat} {rows : List (List AV)} (h : ARel P f args fun R => R = own e sz rows ∨ (R = val (.slice none 0 0) ∧ rows = [])) : ADet P f args ⟨.sl sz rows, [], 0⟩ :=
  h.tree (by simp [AV.lt]) fun R hR => by
    rcases hR with rfl | ⟨rfl, rfl⟩
    · refine ⟨[0], ?_⟩
      have e : ((own e sz rows).frzs [0]).r = .sl sz rows := by simp [Res.frzs, Res.frz, own, ATab.get_cons, AV.frz]
      rw [e]
      exact ⟨trivial, .one (.one (.refl _))⟩
    · exact ⟨[], trivial, .one (.one (.nil sz))⟩
theorem clone64_A (l : List Int) (hl : l.length ≤ 1000000) : ADet Tryz.prog 50 [sI l] ⟨sI l, [], 0⟩ := by
  refine adet_own_nil (e := 2) ?_
  refine arel_of_code mixedT Tryz.func50 rfl (by decide) Tryz.ntmps50 Tryz.results50 rfl ?_
  (repeat' (first | simp (maxSteps := 5000000) (implicitDefEqProofs := false) only [ruA, aEv, aBin, ASt.get, aget, ASt.put, envOf, ↓reduceIte, reduceCtorEq, Nat.reduceLT, eq_self, aNilS, tyK_34] | (with_reducible refine aIf_split (fun _ => ?_) (fun _ => ?_)) | (with_reducible refine aSel_split (fun _ => ?_) (fun _ => ?_)) | (with_reducible refine aGd_split (fun _ => ?_) (fun _ => ?_))))
  intro c hc
  cases c with
  | true =>
    (repeat' (first | simp (maxSteps := 5000000) (implicitDefEqProofs := false) only [ruA, aEv, ASt.get, aget, ASt.put, aResL, aOne, ↓reduceIte, Nat.reduceLT, eq_self] | (with_reducible refine aIf_split (fun _ => ?_) (fun _ => ?_)) | (with_reducible refine aSel_split (fun _ => ?_) (fun _ => ?_)) | (with_reducible refine aGd_split (fun _ => ?_) (fun _ => ?_))))
    exact retV (.inr ⟨rfl, hc rfl⟩)
  | false =>
    (repeat' (first | simp (maxSteps := 5000000) (implicitDefEqProofs := false) only [ruA, ruB, aEv, ASt.get, aget, ASt.put, aAppend, aBuildSlice, aCells, aLit, aDst, aSrc, appTab, Value.cells, aResL, aOne, ↓reduceIte, reduceCtorEq, Nat.reduceLT, Nat.reduceEqDiff, Nat.reduceAdd, Nat.reduceMul, eq_self, aBuildSlice1, frzs, ownIds, tyR_34] | (with_reducible refine aIf_split (fun _ => ?_) (fun _ => ?_)) | (with_reducible refine aSel_split (fun _ => ?_) (fun _ => ?_)) | (with_reducible refine aGd_split (fun _ => ?_) (fun _ => ?_))))
    exact ⟨rfl, by omega, retO rfl (.inl rfl)⟩
def startS (m : Mod) : St := ⟨m.inits, 0, 0, List.replicate m.events.length 0, List.replicate m.events.length 0⟩
def startR (m : Mod) : Res := ⟨.agg [sI m.inits, eI 0, eI 0, .osl 0, .osl 1], [(0, some (.row 3 1 ((List.replicate m.events.length 0).map fun n => [eI n]))), (1, some (.row 3 1 ((List.replicate m.events.length 0).map fun n => [eI n])))], 2⟩
theorem startR_ok (m : Mod) : (startR m).Ok := tab_ok (by simp [startR, tabLt, AObj.lt]) (by simp [startR, AV.lt, AV.ltL])
set_option maxRecDepth 100000 in
theorem start_A (m : Mod) (hl : m.inits.length ≤ 1000000) (hl2 : m.events.length ≤ 1000000) : ADet Tryz.prog 34 [.agg (eMod m)] ⟨.agg (eSt (startS m)), [], 0⟩ := by
  refine ADet.still (R := startR m) [0, 1] ?_ ?_ (by simp [AV.lt, AV.ltL])
  · refine adet_of_code mixedT Tryz.func34 rfl (by decide) Tryz.ntmps34 Tryz.results34 rfl (startR_ok _) ?_
    (repeat' (first | simp (maxSteps := 5000000) (implicitDefEqProofs := false) only [ruA, ruB, aEv, ASt.get, aget, ASt.put, aBox, aCells, oneC, oneCL, Value.cells, Value.oneCell', envOf, ↓reduceIte, Nat.reduceLT, Nat.reduceAdd, eq_self, tyZ_51] | (with_reducible refine aIf_split (fun _ => ?_) (fun _ => ?_)) | (with_reducible refine aSel_split (fun _ => ?_) (fun _ => ?_)) | (with_reducible refine aGd_split (fun _ => ?_) (fun _ => ?_))))
    refine aDraw_held [1] [0, 1, 3, 4, 5, 7, 8, 9] (.three 2 (.two 6 (.exec 10 (.take 11 (.exec 12 .done))) 10 (.exec 6 (.take 11 (.exec 12 .done)))) 6 (.two 2 (.exec 10 (.take 11 (.exec 12 .done))) 10 (.exec 2 (.take 11 (.exec 12 .done)))) 10 (.two 2 (.exec 6 (.take 11 (.exec 12 .done))) 6 (.exec 2 (.take 11 (.exec 12 .done))))) (by kernel_rfl) (by simp [ATab.get_cons]) ?_
    (repeat' (first | simp (maxSteps := 5000000) (implicitDefEqProofs := false) only [ruA, ruB, aEv, aTake, aLoad, aField, aLen, ASt.get, aget, ASt.put, aMake, aBuild, aFill, oneParts, aCells, oneC, oneCL, Value.cells, Value.oneCell', aResL, aOne, ↓reduceIte, reduceCtorEq, Nat.reduceLT, Nat.reduceEqDiff, Nat.reduceAdd, Nat.reduceLeDiff, eq_self, ne_eq, aExecS, aStoreB, aTakes, aTakeE, aFrom, AV.shift, aMay, tyA_51, tyS_51, tyF_43_1, tyA_34, tyS_34, tyF_43_5, tyA_37, tyS_37, tyE_37, tyR_23, tyZ_3, tyB_51] | (with_reducible refine aIf_split (fun _ => ?_) (fun _ => ?_)) | (with_reducible refine aSel_split (fun _ => ?_) (fun _ => ?_)) | (with_reducible refine aGd_split (fun _ => ?_) (fun _ => ?_)) | (with_reducible refine aDraw_quiet (by kernel_rfl) ?_) | ((with_reducible apply callT (g := 50)); exact (clone64_A _ hl); exact (.inl (by simp [roL, roA]))) | (with_reducible apply And.intro)))
    all_goals first
      | omega
      | exact ⟨[2, 3], by decide, rfl, by simp [aTabs, startR, ATab.get_cons]⟩
      | exact ⟨[3, 2], by decide, rfl, by simp [aTabs, startR, ATab.get_cons]⟩
      | trace_state
  · simp [startR, startS, Res.frzs, Res.frz, ATab.get_cons, AV.frz, AV.frzL, frzTab, AObj.frz]
end
section
open Go.RowKit
def sameB (a b : St) : Bool := decide (a.vals = b.vals) && (a.opn == b.opn) && (a.don == b.don) && decide (a.did = b.did) && decide (a.cnt = b.cnt)
def beginM (m : Mod) : St := passM m (-1) (startS m) m.order.length
set_option maxRecDepth 100000 in
theorem begin_A (m : Mod) (hf : Fit m) (hc : condOk m) (hp : ∀ p ∈ m.stages, ok64 p.2) (hi : ∀ x ∈ m.inits, ok64 x) : ADet Tryz.prog 20 [.agg (eMod m)] ⟨.agg (eSt (beginM m)), [], 0⟩ := by
  refine adet_of_code mixedT Tryz.func20 rfl (by decide) Tryz.ntmps20 Tryz.results20 rfl (stOk _) ?_
  obtain ⟨-, -, -, hel, -, -, -, -, -, hil⟩ := id hf.sizes
  (repeat' (first | simp (maxSteps := 5000000) (implicitDefEqProofs := false) only [ruA, ruB, aEv, ASt.get, aget, ASt.put, aBox, aCells, oneC, oneCL, Value.cells, Value.oneCell', envOf, ↓reduceIte, Nat.reduceLT, Nat.reduceAdd, eq_self, tyZ_51] | (with_reducible refine aIf_split (fun _ => ?_) (fun _ => ?_)) | (with_reducible refine aSel_split (fun _ => ?_) (fun _ => ?_)) | (with_reducible refine aGd_split (fun _ => ?_) (fun _ => ?_))))
  refine aDraw_held [1] [0, 1] (.exec 2 (.exec 3 (.exec 4 .done))) (by kernel_rfl) (by simp [ATab.get_cons]) ?_
  (repeat' (first | simp (maxSteps := 5000000) (implicitDefEqProofs := false) only [ruA, ruB, aEv, aTake, aLoad, ASt.get, aget, ASt.put, aCells, oneC, oneCL, Value.oneCell', aResL, aOne, ↓reduceIte, reduceCtorEq, Nat.reduceLT, Nat.reduceEqDiff, Nat.reduceAdd, Nat.reduceLeDiff, eq_self, aExecS, aStoreB, aTakes, aFrom, AV.shift, AV.shiftL, aMay, tyA_51, tyS_51, tyA_43, tyS_43] | (with_reducible refine aIf_split (fun _ => ?_) (fun _ => ?_)) | (with_reducible refine aSel_split (fun _ => ?_) (fun _ => ?_)) | (with_reducible refine aGd_split (fun _ => ?_) (fun _ => ?_)) | (with_reducible refine aDraw_quiet (by kernel_rfl) ?_) | ((with_reducible apply callT (g := 34)); exact (start_A _ (by omega) (by omega)); exact (.inl (by simp [roL, roA, treeL, treeC]))) | ((with_reducible apply callT (g := 33)); exact (pass_A m (startS m) (-1) hf hc hp hi); exact (.inl (by simp [roL, roA, treeL, treeC])))))
  exact gives_tree (by simp [AV.ren, AV.renL, beginM])
end
end Go.Proofs.YtodbhccfajgekaaGreatDoor
