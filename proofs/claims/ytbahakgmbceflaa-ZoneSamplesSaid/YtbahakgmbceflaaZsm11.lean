/-
  Parts of the proof: ZY, ZZ, ZE.
-/
import Derived.Test.YtbahakgmbceflaaZsm10
set_option linter.unusedVariables false
set_option linter.unusedSimpArgs false
namespace Go.Proofs.Ytbahakgmbceflaa
section
open Go.RowKit
theorem up_gap {z : Zn} {cap : Int} {p q : Nat} {A A' : List Int} (h : UpP z.gaps p q A A') {i : Nat} (h1 : p ≤ i) (h2 : i + 1 < q) : GapP z cap A' i := by
  have := h.2.2 (i + 1) (by omega) h2
  rw [Nat.add_sub_cancel] at this
  left
  omega
theorem dn_gap {z : Zn} {cap : Int} {w q : Nat} {A A' : List Int} (h : DnP z.gaps w q A A') {i : Nat} (h1 : w ≤ i) (h2 : i < q) : GapP z cap A' i := by
  have := h.2.2 i h1 h2
  left
  omega
theorem gap_same {z : Zn} {cap : Int} {A A' : List Int} {i : Nat} (h : GapP z cap A i) (h1 : A'.getD i 0 = A.getD i 0) (h2 : A'.getD (i + 1) 0 = A.getD (i + 1) 0) : GapP z cap A' i := by
  unfold GapP at *
  rw [h1, h2]
  exact h
theorem gD_some {l : List Int} {i : Nat} (h : i < l.length) : l[i]? = some (l.getD i 0) := by rw [gD_at h, List.getElem?_eq_getElem h]
theorem up_sum {z : Zn} {p q : Nat} {A A' : List Int} (h : UpP z.gaps p q A A') (hl : q ≤ z.gaps.length + 1) : ∀ d, p + d < q → A'.getD (p + d) 0 = A'.getD p 0 + d + (gapsPQ z p (p + d)).sum
  | 0, _ => by
    rw [show p + 0 = p from rfl, gapsPQ_same]
    simp
  | d + 1, hd => by
    have ih := up_sum h hl d (by omega)
    have h1 := h.2.2 (p + (d + 1)) (by omega) hd
    rw [show p + (d + 1) - 1 = p + d by omega, ih] at h1
    have h2 := gapsPQ_snoc z (p := p) (q := p + d) (gD_some (l := z.gaps) (by omega)) (by omega)
    rw [h1, show p + (d + 1) = p + d + 1 by omega, h2, List.sum_append, List.sum_singleton]
    omega
theorem dn_sum {z : Zn} {w q : Nat} {A A' : List Int} (h : DnP z.gaps w q A A') (hl : q ≤ z.gaps.length) : ∀ d, w + d ≤ q → A'.getD w 0 = A'.getD (w + d) 0 - d - (gapsPQ z w (w + d)).sum
  | 0, _ => by
    rw [show w + 0 = w from rfl, gapsPQ_same]
    simp
  | d + 1, hd => by
    have ih := dn_sum h hl d (by omega)
    have h1 := h.2.2 (w + d) (by omega) (by omega)
    have h2 := gapsPQ_snoc z (p := w) (q := w + d) (gD_some (l := z.gaps) (by omega)) (by omega)
    rw [ih, h1, show w + (d + 1) = w + d + 1 by omega, h2, List.sum_append, List.sum_singleton]
    omega
theorem sum_split (z : Zn) {p w : Nat} (hpw : p ≤ w) : ∀ d, w + d ≤ z.gaps.length → (gapsPQ z p (w + d)).sum = (gapsPQ z p w).sum + (gapsPQ z w (w + d)).sum
  | 0, _ => by
    rw [show w + 0 = w from rfl, gapsPQ_same]
    simp
  | d + 1, hd => by
    have ih := sum_split z hpw d (by omega)
    have h1 := gapsPQ_snoc z (p := p) (q := w + d) (gD_some (l := z.gaps) (by omega)) (by omega)
    have h2 := gapsPQ_snoc z (p := w) (q := w + d) (gD_some (l := z.gaps) (by omega)) (by omega)
    rw [show w + (d + 1) = w + d + 1 by omega, h1, h2, List.sum_append, List.sum_append, ih]
    omega
theorem gaps_nn {z : Zn} (hg : ∀ i, 0 ≤ z.gaps.getD i 0) (p : Nat) : ∀ d, p + d ≤ z.gaps.length → 0 ≤ (gapsPQ z p (p + d)).sum
  | 0, _ => by
    rw [show p + 0 = p from rfl, gapsPQ_same]
    simp
  | d + 1, hd => by
    have ih := gaps_nn hg p d (by omega)
    have h2 := gapsPQ_snoc z (p := p) (q := p + d) (gD_some (l := z.gaps) (by omega)) (by omega)
    rw [show p + (d + 1) = p + d + 1 by omega, h2, List.sum_append, List.sum_singleton]
    have := hg (p + d)
    omega
theorem bt_gap {z : Zn} {cap : Int} {p q w : Nat} {A A1 A' : List Int} (hpq : p < q) (hl : q ≤ z.gaps.length) (hg : ∀ i, 0 ≤ z.gaps.getD i 0) (hW : WdP z.gaps cap p q q w) (hU : UpP z.gaps p (max w (p + 1)) A A1) (hD : DnP z.gaps w q A1 A')
    (hab : A.getD p 0 < A.getD q 0) (hR : RoomP z p q cap (A.getD p 0) (A.getD q 0)) : ∀ i, p ≤ i → i < q → GapP z cap A' i := by
  have hwq : p < w ∧ w ≤ q := by rcases hW with ⟨h1, _⟩ | ⟨h1, h2, _⟩ <;> omega
  have hmx : max w (p + 1) = w := by omega
  rw [hmx] at hU
  intro i h1 h2
  rcases Nat.lt_trichotomy (i + 1) w with h3 | h3 | h3
  · exact gap_same (up_gap hU h1 h3) (hD.2.1 i (.inl (by omega))) (hD.2.1 (i + 1) (.inl h3))
  · have e1 : A'.getD i 0 = A1.getD i 0 := hD.2.1 i (.inl (by omega))
    have e2 := up_sum hU (by omega) (i - p) (by omega)
    rw [show p + (i - p) = i by omega, hU.2.1 p (.inl (Nat.le_refl _))] at e2
    have e3 := dn_sum hD (by omega) (q - w) (by omega)
    rw [show w + (q - w) = q by omega, hD.2.1 q (.inr (Nat.le_refl _)), hU.2.1 q (.inr (by omega))] at e3
    have e4 := sum_split z (p := p) (w := w) (by omega) (q - w) (by omega)
    rw [show w + (q - w) = q by omega] at e4
    have e5 := gapsPQ_snoc z (p := p) (q := i) (gD_some (l := z.gaps) (by omega)) (by omega)
    rw [h3] at e5
    rw [e5, List.sum_append, List.sum_singleton] at e4
    have n1 := gaps_nn hg p (q - p) (by omega)
    rw [show p + (q - p) = q by omega] at n1
    unfold RoomP gapV at hR
    have hGi : A'.getD (i + 1) 0 = A'.getD w 0 := by rw [h3]
    unfold GapP
    rw [hGi]
    rcases hR with hR | ⟨⟨y, hy, rfl⟩, hR⟩
    · left
      omega
    · right
      have hcap : z.gaps.getD i 0 = y := by
        rcases hW with ⟨h4, h5⟩ | ⟨_, _, h5⟩
        · obtain ⟨j, hj, he⟩ := List.getElem_of_mem hy
          unfold gapsPQ at he hj
          rw [List.length_drop, List.length_take] at hj
          rw [List.getElem_drop, List.getElem_take] at he
          exact (h5 (p + j) (by omega) (by omega) (by rw [gD_at (by omega)]; exact he)).elim
        · rw [← h3, Nat.add_sub_cancel] at h5
          exact h5
      refine ⟨hcap, ?_⟩
      omega
  · exact dn_gap hD (by omega) h2
/-- the numbers are not great -/
def BdA (A : List Int) : Prop := ∀ i, -4398046511104 ≤ A.getD i 0 ∧ A.getD i 0 ≤ 4398046511104
/-- nor are gaps, constants, classes -/
def SmpB (z : Zn) (sc : List Int) : Prop := z.cls.length ≤ 40 ∧ (∀ i, 0 ≤ z.gaps.getD i 0 ∧ z.gaps.getD i 0 ≤ 1048576) ∧ ∀ t, -1099511627776 ≤ sc.getD t 0 ∧ sc.getD t 0 ≤ 1099511627776
theorem UpP.bd {g : List Int} {p q : Nat} {A A' : List Int} (h : UpP g p q A A') (hpq : p < q) (hq : q ≤ 42) (hg : ∀ i, 0 ≤ g.getD i 0 ∧ g.getD i 0 ≤ 1048576) (hp : -1099511627776 ≤ A.getD p 0 ∧ A.getD p 0 ≤ 1099511627776) (hb : BdA A) : BdA A' := fun i => by
  by_cases h1 : i ≤ p ∨ q ≤ i
  · rw [h.2.1 i h1]
    exact hb i
  · have h2 := h.bound hpq 1048576 hg (i - p) (by omega)
    rw [show p + (i - p) = i by omega] at h2
    omega
theorem DnP.bd {g : List Int} {w q : Nat} {A A' : List Int} (h : DnP g w q A A') (hq : q ≤ 42) (hg : ∀ i, 0 ≤ g.getD i 0 ∧ g.getD i 0 ≤ 1048576) (hp : -1099511627776 ≤ A.getD q 0 ∧ A.getD q 0 ≤ 1099511627776) (hb : BdA A) : BdA A' := fun i => by
  by_cases h1 : i < w ∨ q ≤ i
  · rw [h.2.1 i h1]
    exact hb i
  · have h2 := h.bound 1048576 hg (q - i) (by omega) (by omega)
    rw [show q - (q - i) = i by omega] at h2
    omega
/-- the constants stand, and up to a class the numbers lie as the gaps say -/
structure SmpInv (z : Zn) (sc : List Int) (cap : Int) (A : List Int) (upto : Nat) : Prop where
  len : A.length = z.cls.length
  fix : ∀ t, t < (fixL z).length → A.getD ((fixL z).getD t 0) 0 = sc.getD t 0
  gap : ∀ i, i < upto → GapP z cap A i
  bd : BdA A
theorem fix_lt (z : Zn) {s t : Nat} (hst : s < t) (ht : t < (fixL z).length) : (fixL z).getD s 0 < (fixL z).getD t 0 := by
  have := List.pairwise_iff_getElem.1 (fixI_up z.cls z.cls.length) s t (by show s < (fixL z).length; omega) ht hst
  rw [List.getD_eq_getElem?_getD, List.getD_eq_getElem?_getD, List.getElem?_eq_getElem ht, List.getElem?_eq_getElem (by omega)]
  exact this
theorem fix_le (z : Zn) {s t : Nat} (hst : s ≤ t) (ht : t < (fixL z).length) : (fixL z).getD s 0 ≤ (fixL z).getD t 0 := by
  rcases Nat.eq_or_lt_of_le hst with rfl | h
  · exact Nat.le_refl _
  · exact Nat.le_of_lt (fix_lt z h ht)
theorem fix_cls (z : Zn) {t : Nat} (ht : t < (fixL z).length) : (fixL z).getD t 0 < z.cls.length := by
  rw [List.getD_eq_getElem?_getD, List.getElem?_eq_getElem ht]
  exact fixI_mem _ _ (List.getElem_mem ht)
theorem SmpInv.down {z : Zn} {sc : List Int} {cap : Int} {A A' : List Int} (h : SmpInv z sc cap A 0) (h0 : 0 < (fixL z).length) (hD : DnP z.gaps 0 ((fixL z).getD 0 0) A A') (hB : SmpB z sc) : SmpInv z sc cap A' ((fixL z).getD 0 0) :=
  ⟨hD.1.trans h.len, fun t ht => by rw [hD.2.1 _ (.inr (fix_le z (Nat.zero_le _) ht))]; exact h.fix t ht, fun i hi => dn_gap hD (Nat.zero_le _) hi, hD.bd (by have := fix_cls z h0; have := hB.1; omega) hB.2.1 (by rw [h.fix 0 h0]; exact hB.2.2 0) h.bd⟩
theorem SmpInv.between {z : Zn} {sc : List Int} {cap : Int} {A A1 A' : List Int} {k w : Nat} (h : SmpInv z sc cap A ((fixL z).getD k 0)) (hk : k + 1 < (fixL z).length) (hgl : z.cls.length ≤ z.gaps.length + 1) (hg : ∀ i, 0 ≤ z.gaps.getD i 0)
    (hW : WdP z.gaps cap ((fixL z).getD k 0) ((fixL z).getD (k + 1) 0) ((fixL z).getD (k + 1) 0) w) (hU : UpP z.gaps ((fixL z).getD k 0) (max w ((fixL z).getD k 0 + 1)) A A1) (hD : DnP z.gaps w ((fixL z).getD (k + 1) 0) A1 A')
    (hsc : sc.getD k 0 < sc.getD (k + 1) 0) (hR : RoomP z ((fixL z).getD k 0) ((fixL z).getD (k + 1) 0) cap (sc.getD k 0) (sc.getD (k + 1) 0)) (hB : SmpB z sc) : SmpInv z sc cap A' ((fixL z).getD (k + 1) 0) := by
  have hpq := fix_lt z (s := k) (t := k + 1) (by omega) hk
  have hq := fix_cls z hk
  have f1 := h.fix k (by omega)
  have f2 := h.fix (k + 1) hk
  have hwq : (fixL z).getD k 0 < w ∧ w ≤ (fixL z).getD (k + 1) 0 := by rcases hW with ⟨h1, _⟩ | ⟨h1, h2, _⟩ <;> omega
  have hsame : ∀ i, i ≤ (fixL z).getD k 0 ∨ (fixL z).getD (k + 1) 0 ≤ i → A'.getD i 0 = A.getD i 0 := fun i hi => by
    rw [hD.2.1 i (by omega), hU.2.1 i (by omega)]
  have hz := hB.1
  have hb1 : BdA A1 := hU.bd (by omega) (by omega) hB.2.1 (by rw [f1]; exact hB.2.2 k) h.bd
  have hb2 : BdA A' := hD.bd (by omega) hB.2.1 (by rw [hU.2.1 _ (.inr (by omega)), f2]; exact hB.2.2 (k + 1)) hb1
  refine ⟨hD.1.trans (hU.1.trans h.len), fun t ht => ?_, fun i hi => ?_, hb2⟩
  · rw [hsame _ ?_]
    · exact h.fix t ht
    · rcases Nat.lt_or_ge k t with h1 | h1
      · exact .inr (fix_le z (by omega) ht)
      · exact .inl (fix_le z h1 (by omega))
  · rcases Nat.lt_or_ge i ((fixL z).getD k 0) with h1 | h1
    · exact gap_same (h.gap i h1) (hsame i (by omega)) (hsame (i + 1) (by omega))
    · rw [← f1, ← f2] at hsc hR
      exact bt_gap hpq (by omega) hg hW hU hD hsc hR i h1 hi
theorem SmpInv.up {z : Zn} {sc : List Int} {cap : Int} {A A' : List Int} {k : Nat} (h : SmpInv z sc cap A ((fixL z).getD k 0)) (hk : k + 1 = (fixL z).length) (hU : UpP z.gaps ((fixL z).getD k 0) (max z.cls.length ((fixL z).getD k 0 + 1)) A A') (hB : SmpB z sc) : SmpInv z sc cap A' (z.cls.length - 1) := by
  have hz := hB.1
  have hq := fix_cls z (t := k) (by omega)
  have hb2 : BdA A' := hU.bd (by omega) (by omega) hB.2.1 (by rw [h.fix k (by omega)]; exact hB.2.2 k) h.bd
  have hsame : ∀ i, i ≤ (fixL z).getD k 0 → A'.getD i 0 = A.getD i 0 := fun i hi => hU.2.1 i (.inl hi)
  refine ⟨hU.1.trans h.len, fun t ht => ?_, fun i hi => ?_, hb2⟩
  · rw [hsame _ (fix_le z (by omega) (by omega))]
    exact h.fix t ht
  · rcases Nat.lt_or_ge i ((fixL z).getD k 0) with h1 | h1
    · exact gap_same (h.gap i h1) (hsame i (by omega)) (hsame (i + 1) (by omega))
    · exact up_gap hU h1 (by omega)
theorem SmpInv.none {z : Zn} {sc : List Int} {cap : Int} {A A' : List Int} (h : SmpInv z sc cap A 0) (hU : UpP z.gaps 0 (max z.cls.length 1) A A') (h0 : (fixL z).length = 0) (hz : A.getD 0 0 = 0) (hB : SmpB z sc) : SmpInv z sc cap A' (z.cls.length - 1) :=
  ⟨hU.1.trans h.len, fun t ht => by omega, fun i hi => up_gap hU (Nat.zero_le _) (by omega), hU.bd (by omega) (by have := hB.1; omega) hB.2.1 (by rw [hz]; omega) h.bd⟩
end
section
open Go.RowKit
/-- what is in a set, of the first k numbers -/
def lstN (s : Int) (k : Nat) : List Nat := (List.range k).filter fun i => hasB s (i : Int)
theorem lstN_snoc (s : Int) (k : Nat) : lstN s (k + 1) = if hasB s (k : Int) = true then lstN s k ++ [k] else lstN s k := by
  unfold lstN
  rw [List.range_succ, List.filter_append]
  split
  · rename_i h
    simp [h]
  · rename_i h
    simp [h]
theorem lstN_len (s : Int) (k : Nat) : (lstN s k).length ≤ k := by
  have := List.length_filter_le (fun i : Nat => hasB s (i : Int)) (List.range k)
  unfold lstN
  simpa using this
theorem lstN_mem (s : Int) (k : Nat) {i : Nat} : i ∈ lstN s k ↔ i < k ∧ hasB s (i : Int) = true := by simp [lstN]
set_option maxRecDepth 100000 in
set_option maxHeartbeats 8000000 in
theorem bitsList_A (s : Int) : ADet Try.prog 18 [eI s] (own 3 1 ((lstN s 31).map fun n : Nat => [eI (n : Int)])) := by
  refine adet_of_code mixedT Try.func18 rfl (by decide) Try.ntmps18 Try.results18 rfl (own_ok _ _ _) ?_
  (repeat' (first | simp (maxSteps := 5000000) (implicitDefEqProofs := false) only [ruA, ruB, aEv, aTake, aLoad, aField, aIndex, aLen, aBin, bin2, aUn, un1, aExtract, aConv, ASt.get, aget, ASt.put, aStore, aBox, aAppend, aBuildSlice, aMake, aBuild, aFill, oneParts, allC, aBinS, yv, aCells, oneC, oneCL, treeC, treeL, aLit, aDst, aSrc, appTab, Value.cells, Value.oneCell', envOf, aResL, aOne, ↓reduceIte, reduceCtorEq, forall_const, Nat.reduceLT, Nat.reduceEqDiff, Nat.reduceAdd, Nat.reduceMul, Nat.reduceSub, Nat.reduceLeDiff, Nat.reduceBEq, eq_self, implies_true, ne_eq, dref, dref1, dref2, aExecS, aStoreB, aTakes, aTakeE, aElder, aFrom, aFresh, isLoad, aBuildSlice1, frzs, frz1, ownIds, AV.frz, AV.frzL, frzEnv, AV.shift, AV.shiftL, aFieldV, aSliceW, aSliceO, aSlice, aSliceR, aSliceS, aBd, aMax, frzAVs, frzAV, frzTab, AObj.frz, aMM, aNilS, aMay, aNil, tyK_3, tyR_23] | (with_reducible refine aIf_split (fun _ => ?_) (fun _ => ?_)) | (with_reducible refine aSel_split (fun _ => ?_) (fun _ => ?_)) | (with_reducible refine aGd_split (fun _ => ?_) (fun _ => ?_))))
  refine aLoop_of (fun st => ∃ k : Nat, k ≤ 31 ∧ st = ⟨17, [(0, eI s), (3, .osl 0), (5, eI (k : Int))], [(0, some (.row 3 1 ((lstN s k).map fun n : Nat => [eI (n : Int)])))], 1⟩) (fun st => 31 - slotN st 5) ⟨_, ((weak_nil 3 3 1 (by simp only [ruW, ASt.get, aget, ASt.put, ↓reduceIte, reduceCtorEq, Nat.reduceLT, Nat.reduceEqDiff, Nat.reduceAdd, Nat.reduceLeDiff, eq_self, implies_true, lstN, List.range_zero, List.filter_nil, List.map_nil])).trans (weak_ren1 [0] ⟨(by decide), (by (first | ((simp only [envInR, tabInR, envLt, tabLt, AObj.lt, AV.lt, AV.ltL, AV.ren, AV.renL, AObj.ren, List.getD_cons_zero, List.getD_cons_succ, List.length_cons, List.length_nil, ruW, ASt.get, aget, ASt.put, ↓reduceIte, reduceCtorEq, Nat.reduceLT, Nat.reduceEqDiff, Nat.reduceAdd, Nat.reduceLeDiff, eq_self, implies_true, lstN, List.range_zero, List.filter_nil, List.map_nil]) <;> (repeat' apply And.intro) <;> first | (rw [wrapK (by omega)]; done) | (simp; done) | omega) | fail))⟩)), 0, Nat.zero_le _, rfl⟩ ?_
  rintro _ ⟨k, hk, rfl⟩
  by_cases hlt : k < 31
  · have d0 : decide ((k : Int) < 31) = true := decide_eq_true (by omega)
    have hs := lstN_snoc s k
    have hl := lstN_len s k
    have hH := has_A s (k : Int)
    cases hb : hasB s (k : Int) with
    | true =>
      rw [hb] at hH
      rw [hb, if_pos rfl] at hs
      have hsn : (lstN s (k + 1)).map (fun n : Nat => [eI (n : Int)]) = (lstN s k).map (fun n : Nat => [eI (n : Int)]) ++ [[eI (k : Int)]] := by rw [hs, List.map_append]; rfl
      (repeat' (first | simp (maxSteps := 5000000) (implicitDefEqProofs := false) only [ruA, ruB, aEv, aTake, aLoad, aField, aIndex, aLen, aBin, bin2, aUn, un1, aExtract, aConv, ASt.get, aget, ASt.put, aStore, aBox, aAppend, aBuildSlice, aMake, aBuild, aFill, oneParts, allC, aBinS, yv, aCells, oneC, oneCL, treeC, treeL, aLit, aDst, aSrc, appTab, Value.cells, Value.oneCell', envOf, aResL, aOne, ↓reduceIte, reduceCtorEq, forall_const, Nat.reduceLT, Nat.reduceEqDiff, Nat.reduceAdd, Nat.reduceMul, Nat.reduceSub, Nat.reduceLeDiff, Nat.reduceBEq, eq_self, implies_true, ne_eq, dref, dref1, dref2, aExecS, aStoreB, aTakes, aTakeE, aElder, aFrom, aFresh, isLoad, aBuildSlice1, frzs, frz1, ownIds, AV.frz, AV.frzL, frzEnv, AV.shift, AV.shiftL, aFieldV, aSliceW, aSliceO, aSlice, aSliceR, aSliceS, aBd, aMax, frzAVs, frzAV, frzTab, AObj.frz, aMM, aNilS, aMay, aNil, tyK_3, tyR_23, d0, List.length_map] | (with_reducible refine aIf_split (fun _ => ?_) (fun _ => ?_)) | (with_reducible refine aSel_split (fun _ => ?_) (fun _ => ?_)) | (with_reducible refine aGd_split (fun _ => ?_) (fun _ => ?_)) | (with_reducible refine aDraw_quiet (by kernel_rfl) ?_) | ((with_reducible apply callV); exact (hH)) | ((with_reducible apply callD); exact (hH)) | (with_reducible apply And.intro)))
      all_goals first
        | rfl
        | omega
        | exact roundI (weak_ren1 [2] ⟨(by decide), (by (first | ((simp only [envInR, tabInR, envLt, tabLt, AObj.lt, AV.lt, AV.ltL, AV.ren, AV.renL, AObj.ren, List.getD_cons_zero, List.getD_cons_succ, List.length_cons, List.length_nil, ruW, ASt.get, aget, ASt.put, ↓reduceIte, reduceCtorEq, Nat.reduceLT, Nat.reduceEqDiff, Nat.reduceAdd, Nat.reduceLeDiff, eq_self, implies_true, hsn]) <;> (repeat' apply And.intro) <;> first | (rw [wrapK (by omega)]; done) | (simp; done) | omega) | fail))⟩) ⟨k + 1, by omega, rfl⟩ (by simp only [slotN, ruW, ASt.get, aget, ASt.put, ↓reduceIte, reduceCtorEq, Nat.reduceLT, Nat.reduceEqDiff, Nat.reduceAdd, Nat.reduceLeDiff, eq_self, implies_true]; omega)
        | trace_state
    | false =>
      rw [hb] at hH
      rw [hb, if_neg (by simp)] at hs
      (repeat' (first | simp (maxSteps := 5000000) (implicitDefEqProofs := false) only [ruA, ruB, aEv, aTake, aLoad, aField, aIndex, aLen, aBin, bin2, aUn, un1, aExtract, aConv, ASt.get, aget, ASt.put, aStore, aBox, aAppend, aBuildSlice, aMake, aBuild, aFill, oneParts, allC, aBinS, yv, aCells, oneC, oneCL, treeC, treeL, aLit, aDst, aSrc, appTab, Value.cells, Value.oneCell', envOf, aResL, aOne, ↓reduceIte, reduceCtorEq, forall_const, Nat.reduceLT, Nat.reduceEqDiff, Nat.reduceAdd, Nat.reduceMul, Nat.reduceSub, Nat.reduceLeDiff, Nat.reduceBEq, eq_self, implies_true, ne_eq, dref, dref1, dref2, aExecS, aStoreB, aTakes, aTakeE, aElder, aFrom, aFresh, isLoad, aBuildSlice1, frzs, frz1, ownIds, AV.frz, AV.frzL, frzEnv, AV.shift, AV.shiftL, aFieldV, aSliceW, aSliceO, aSlice, aSliceR, aSliceS, aBd, aMax, frzAVs, frzAV, frzTab, AObj.frz, aMM, aNilS, aMay, aNil, tyK_3, tyR_23, d0, List.length_map] | (with_reducible refine aIf_split (fun _ => ?_) (fun _ => ?_)) | (with_reducible refine aSel_split (fun _ => ?_) (fun _ => ?_)) | (with_reducible refine aGd_split (fun _ => ?_) (fun _ => ?_)) | (with_reducible refine aDraw_quiet (by kernel_rfl) ?_) | ((with_reducible apply callV); exact (hH)) | ((with_reducible apply callD); exact (hH)) | (with_reducible apply And.intro)))
      all_goals first
        | exact roundI (weak_ren1 [0] ⟨(by decide), (by (first | ((simp only [envInR, tabInR, envLt, tabLt, AObj.lt, AV.lt, AV.ltL, AV.ren, AV.renL, AObj.ren, List.getD_cons_zero, List.getD_cons_succ, List.length_cons, List.length_nil, ruW, ASt.get, aget, ASt.put, ↓reduceIte, reduceCtorEq, Nat.reduceLT, Nat.reduceEqDiff, Nat.reduceAdd, Nat.reduceLeDiff, eq_self, implies_true, hs]) <;> (repeat' apply And.intro) <;> first | (rw [wrapK (by omega)]; done) | (simp; done) | omega) | fail))⟩) ⟨k + 1, by omega, rfl⟩ (by simp only [slotN, ruW, ASt.get, aget, ASt.put, ↓reduceIte, reduceCtorEq, Nat.reduceLT, Nat.reduceEqDiff, Nat.reduceAdd, Nat.reduceLeDiff, eq_self, implies_true]; omega)
        | trace_state
  · obtain rfl : k = 31 := by omega
    have d0 : decide (((31 : Nat) : Int) < 31) = false := rfl
    (repeat' (first | simp (maxSteps := 5000000) (implicitDefEqProofs := false) only [ruA, ruB, aEv, aTake, aLoad, aField, aIndex, aLen, aBin, bin2, aUn, un1, aExtract, aConv, ASt.get, aget, ASt.put, aStore, aBox, aAppend, aBuildSlice, aMake, aBuild, aFill, oneParts, allC, aBinS, yv, aCells, oneC, oneCL, treeC, treeL, aLit, aDst, aSrc, appTab, Value.cells, Value.oneCell', envOf, aResL, aOne, ↓reduceIte, reduceCtorEq, forall_const, Nat.reduceLT, Nat.reduceEqDiff, Nat.reduceAdd, Nat.reduceMul, Nat.reduceSub, Nat.reduceLeDiff, Nat.reduceBEq, eq_self, implies_true, ne_eq, dref, dref1, dref2, aExecS, aStoreB, aTakes, aTakeE, aElder, aFrom, aFresh, isLoad, aBuildSlice1, frzs, frz1, ownIds, AV.frz, AV.frzL, frzEnv, AV.shift, AV.shiftL, aFieldV, aSliceW, aSliceO, aSlice, aSliceR, aSliceS, aBd, aMax, frzAVs, frzAV, frzTab, AObj.frz, aMM, aNilS, aMay, aNil, tyK_3, tyR_23, d0] | (with_reducible refine aIf_split (fun _ => ?_) (fun _ => ?_)) | (with_reducible refine aSel_split (fun _ => ?_) (fun _ => ?_)) | (with_reducible refine aGd_split (fun _ => ?_) (fun _ => ?_)) | (with_reducible refine aDraw_quiet (by kernel_rfl) ?_)))
    all_goals exact aGives_own (by simp [ATab.get_cons])
/-- what zone.Sample gives back -/
def SampleP (z : Zn) (n : Nat) (c : List Int) (r : Int) (R : Res) : Prop :=
  (¬ CheckP z (n : Int) c r ∧ R = ⟨.tup [.c (.slice none 0 0), eB false], [], 0⟩) ∨ (CheckP z (n : Int) c r ∧ ∃ v : List Int, R = ⟨.tup [.osl 0, eB true], [(0, some (.row 2 1 (v.map fun n => [eI n])))], 1⟩ ∧ v.length = n ∧ zoneM v c r = z ∧ ∀ x ∈ v, ok64 x)
theorem sample_ok {v : List Int} : (⟨.tup [.osl 0, eB true], [(0, some (.row 2 1 (v.map fun n => [eI n])))], 1⟩ : Res).Ok := ⟨fun id o hg => (own_ok 2 1 (v.map fun n => [eI n])).young id o hg, ⟨Nat.zero_lt_one, trivial, trivial⟩⟩
/-- up to where the numbers are known behind k constants -/
def uptoN (z : Zn) (k : Nat) : Nat := if (fixL z).length = 0 then z.cls.length - 1 else if k = 0 then 0 else if k = (fixL z).length then z.cls.length - 1 else (fixL z).getD (k - 1) 0
set_option maxRecDepth 100000 in
set_option maxHeartbeats 16000000 in
theorem sample_A (z : Zn) (n : Nat) (c : List Int) (r : Int) (h1 : z.cls.length ≤ 40) (h2 : z.gaps.length ≤ 40) (h3 : c.length ≤ 1000000) (hn : n ≤ 31) (hc : ∀ x ∈ c, -1099511627776 ≤ x ∧ x ≤ 1099511627776) (hr : capV r ≤ 1048576) (hat : ∀ x ∈ z.cls, x.attrs < 9223372036854775808) :
    ARel Try.prog 6 [.agg (eZn z), eI (n : Int), sI c, eI r] (SampleP z n c r) := by
  obtain ⟨t, ht, hCk⟩ := adet_iff (zoneCheck_A z (n : Int) c r (by omega) (by omega) h3 fun x hx => by have := hc x hx; unfold ok64; omega)
  refine arel_of_sc Try.func6 rfl (by decide) Try.ntmps6 Try.results6 rfl ?_
  refine sc_cut (fun st => st = ⟨134, [(1, eI (n : Int)), (2, sI c), (3, eI r), (4, .op 0 0 0)], [(0, zBox (z.cls.map eCls) z.gaps)], 1⟩) (sc_of mixedT ?_) ?_
  · (repeat' (first | simp (maxSteps := 5000000) (implicitDefEqProofs := false) only [ruA, ruB, aEv, aTake, aLoad, aField, aIndex, aLen, aBin, bin2, aUn, un1, aExtract, aConv, ASt.get, aget, ASt.put, aStore, aBox, aAppend, aBuildSlice, aMake, aBuild, aFill, oneParts, allC, aBinS, yv, aCells, oneC, oneCL, treeC, treeL, aLit, aDst, aSrc, appTab, Value.cells, Value.oneCell', envOf, aResL, aOne, ↓reduceIte, reduceCtorEq, forall_const, Nat.reduceLT, Nat.reduceEqDiff, Nat.reduceAdd, Nat.reduceMul, Nat.reduceSub, Nat.reduceLeDiff, Nat.reduceBEq, eq_self, implies_true, ne_eq, dref, dref1, dref2, aExecS, aStoreB, aTakes, aTakeE, aElder, aFrom, aFresh, isLoad, aBuildSlice1, frzs, frz1, ownIds, AV.frz, AV.frzL, frzEnv, AV.shift, AV.shiftL, aFieldV, aSliceW, aSliceO, aSlice, aSliceR, aSliceS, aBd, aMax, frzAVs, frzAV, frzTab, AObj.frz, aMM, aNilS, aMay, aNil, tyA_25, tyS_25, tyF_25_0, tyA_22, tyS_22, tyE_22, tyK_22, tyR_26, tyZ_2, tyB_41, tyE_23, tyK_23, tyK_3, tyA_3, tyS_3, tyF_41_2, tyA_26, tyS_26, tyE_26, tyA_2, tyS_2, tyF_41_3, tyA_4, tyS_4, tyA_37, tyS_37, tyZ_37, tyF_37_0] | (with_reducible refine aIf_split (fun _ => ?_) (fun _ => ?_)) | (with_reducible refine aSel_split (fun _ => ?_) (fun _ => ?_)) | (with_reducible refine aGd_split (fun _ => ?_) (fun _ => ?_)) | (with_reducible refine aDraw_quiet (by kernel_rfl) ?_)))
    exact aTo_mk (weak_cut1 (by (first | ((simp only [envIn, tabIn, envLt, tabLt, AObj.lt, AV.lt, AV.ltL, ruW, ASt.get, aget, ASt.put, ↓reduceIte, reduceCtorEq, Nat.reduceLT, Nat.reduceEqDiff, Nat.reduceAdd, Nat.reduceLeDiff, eq_self, implies_true]) <;> (repeat' apply And.intro) <;> first | (rw [wrapK (by omega)]; done) | (simp; done) | omega) | fail))) rfl
  rintro _ rfl
  cases t with
  | false =>
    refine sc_of mixedT ?_
    (repeat' (first | simp (maxSteps := 5000000) (implicitDefEqProofs := false) only [ruA, ruB, aEv, aTake, aLoad, aField, aIndex, aLen, aBin, bin2, aUn, un1, aExtract, aConv, ASt.get, aget, ASt.put, aStore, aBox, aAppend, aBuildSlice, aMake, aBuild, aFill, oneParts, allC, aBinS, yv, aCells, oneC, oneCL, treeC, treeL, aLit, aDst, aSrc, appTab, Value.cells, Value.oneCell', envOf, aResL, aOne, ↓reduceIte, reduceCtorEq, forall_const, Nat.reduceLT, Nat.reduceEqDiff, Nat.reduceAdd, Nat.reduceMul, Nat.reduceSub, Nat.reduceLeDiff, Nat.reduceBEq, eq_self, implies_true, ne_eq, dref, dref1, dref2, aExecS, aStoreB, aTakes, aTakeE, aElder, aFrom, aFresh, isLoad, aBuildSlice1, frzs, frz1, ownIds, AV.frz, AV.frzL, frzEnv, AV.shift, AV.shiftL, aFieldV, aSliceW, aSliceO, aSlice, aSliceR, aSliceS, aBd, aMax, frzAVs, frzAV, frzTab, AObj.frz, aMM, aNilS, aMay, aNil, tyA_25, tyS_25, tyF_25_0, tyA_22, tyS_22, tyE_22, tyK_22, tyR_26, tyZ_2, tyB_41, tyE_23, tyK_23, tyK_3, tyA_3, tyS_3, tyF_41_2, tyA_26, tyS_26, tyE_26, tyA_2, tyS_2, tyF_41_3, tyA_4, tyS_4, tyA_37, tyS_37, tyZ_37, tyF_37_0] | (with_reducible refine aIf_split (fun _ => ?_) (fun _ => ?_)) | (with_reducible refine aSel_split (fun _ => ?_) (fun _ => ?_)) | (with_reducible refine aGd_split (fun _ => ?_) (fun _ => ?_)) | (with_reducible refine aDraw_quiet (by kernel_rfl) ?_) | ((with_reducible apply callV); exact (hCk)) | ((with_reducible apply callD); exact (hCk))))
    have hno : ¬ CheckP z (n : Int) c r := fun h => by
      have := ht.2 h
      cases this
    all_goals exact ⟨⟨.tup [.c (.slice none 0 0), eB false], [], 0⟩, Or.inl ⟨hno, rfl⟩, ⟨fun id o h => (by cases h), ⟨trivial, trivial, trivial⟩⟩, ⟨[], by simp, rfl, trivial⟩⟩
  | true =>
  have hC := ht.1 rfl
  have hCap := halveCap_A r
  have hS := numSorted_A c h3
  have hX := fixed_A z (by omega)
  have hcap0 := capV_0 r
  have hsc := (sortR_up c).1
  have hscb : ∀ x ∈ sortR c, -1099511627776 ≤ x ∧ x ≤ 1099511627776 := fun x hx => hc x (((sortR_up c).2 x).1 hx)
  have hscl := sortR_len c
  obtain ⟨hF, hG, hR⟩ : FormedP z.cls (n : Int) ((sortR c).length : Int) ∧ GappedP z (capV r) ∧ ∀ i, i + 1 < (fixL z).length → RoomP z ((fixL z).getD i 0) ((fixL z).getD (i + 1) 0) (capV r) ((sortR c).getD i 0) ((sortR c).getD (i + 1) 0) := ⟨hC.1.2.1, hC.1.2.2, hC.2⟩
  have hB := zb_of hn hF hat
  have hFl : (fixL z).length = (sortR c).length := by
    have e1 := fix_next hF.1 z.cls.length (Nat.le_refl _)
    rw [List.take_length] at e1
    have e2 := hF.2.2
    unfold fixL
    omega
  have hfm : ∀ j (h : j < (fixL z).length), (fixL z)[j] < z.cls.length := fun j h => fixI_mem _ _ (List.getElem_mem h)
  have hF40 : (fixL z).length ≤ 40 := by
    have := fixI_len z.cls z.cls.length
    unfold fixL
    omega
  have hgl := hG.1
  have hgg : ∀ i, 0 ≤ z.gaps.getD i 0 ∧ z.gaps.getD i 0 ≤ 1048576 := fun i => by
    rcases Nat.lt_or_ge i z.gaps.length with h | h
    · rw [gD_at h]
      have := hG.2 i h
      omega
    · rw [List.getD_eq_getElem?_getD, List.getElem?_eq_none h]
      simp
  have hXe : fixI z.cls z.cls.length = fixL z := rfl
  rw [hXe] at hX
  have hfin := fun A (h : SmpInv z (sortR c) (capV r) A (z.cls.length - 1)) v (hv : v.length = n) h3 => zone_sample (v := v) hn hC hB h.len h.fix (fun i hi => h.gap i (by omega)) hv h3
  generalize hsce : sortR c = sc at *
  generalize hcape : capV r = cap at *
  obtain ⟨X, hXX⟩ : ∃ X, X = z.cls.map eCls := ⟨_, rfl⟩
  rw [← hXX]
  refine sc_cut (fun st => st = ⟨134, [(1, eI (n : Int)), (2, sI c), (3, eI r), (4, .op 0 0 0)], [(0, zBox X z.gaps)], 1⟩) (sc_of mixedT ?_) ?_
  · have hCk2 : ADet Try.prog 11 [.agg [.sl 2 X, sI z.gaps], eI (n : Int), sI c, eI r] (val (.bool true)) := by rw [hXX]; exact hCk
    (repeat' (first | simp (maxSteps := 5000000) (implicitDefEqProofs := false) only [ruA, ruB, aEv, aTake, aLoad, aField, aIndex, aLen, aBin, bin2, aUn, un1, aExtract, aConv, ASt.get, aget, ASt.put, aStore, aBox, aAppend, aBuildSlice, aMake, aBuild, aFill, oneParts, allC, aBinS, yv, aCells, oneC, oneCL, treeC, treeL, aLit, aDst, aSrc, appTab, Value.cells, Value.oneCell', envOf, aResL, aOne, ↓reduceIte, reduceCtorEq, forall_const, Nat.reduceLT, Nat.reduceEqDiff, Nat.reduceAdd, Nat.reduceMul, Nat.reduceSub, Nat.reduceLeDiff, Nat.reduceBEq, eq_self, implies_true, ne_eq, dref, dref1, dref2, aExecS, aStoreB, aTakes, aTakeE, aElder, aFrom, aFresh, isLoad, aBuildSlice1, frzs, frz1, ownIds, AV.frz, AV.frzL, frzEnv, AV.shift, AV.shiftL, aFieldV, aSliceW, aSliceO, aSlice, aSliceR, aSliceS, aBd, aMax, frzAVs, frzAV, frzTab, AObj.frz, aMM, aNilS, aMay, aNil, tyA_25, tyS_25, tyF_25_0, tyA_22, tyS_22, tyE_22, tyK_22, tyR_26, tyZ_2, tyB_41, tyE_23, tyK_23, tyK_3, tyA_3, tyS_3, tyF_41_2, tyA_26, tyS_26, tyE_26, tyA_2, tyS_2, tyF_41_3, tyA_4, tyS_4, tyA_37, tyS_37, tyZ_37, tyF_37_0] | (with_reducible refine aIf_split (fun _ => ?_) (fun _ => ?_)) | (with_reducible refine aSel_split (fun _ => ?_) (fun _ => ?_)) | (with_reducible refine aGd_split (fun _ => ?_) (fun _ => ?_)) | (with_reducible refine aDraw_quiet (by kernel_rfl) ?_) | ((with_reducible apply callV); exact (hCk2)) | ((with_reducible apply callD); exact (hCk2))))
    all_goals exact aTo_mk (weak_cut1 (by (first | ((simp only [envIn, tabIn, envLt, tabLt, AObj.lt, AV.lt, AV.ltL, ruW, ASt.get, aget, ASt.put, ↓reduceIte, reduceCtorEq, Nat.reduceLT, Nat.reduceEqDiff, Nat.reduceAdd, Nat.reduceLeDiff, eq_self, implies_true]) <;> (repeat' apply And.intro) <;> first | (rw [wrapK (by omega)]; done) | (simp; done) | omega) | fail))) rfl
  rintro _ rfl
  have hXl : X.length = z.cls.length := by rw [hXX, List.length_map]
  have hrep : List.replicate z.cls.length [eI 0] = (List.replicate z.cls.length (0 : Int)).map fun n => [eI n] := by simp
  refine sc_cut (fun st => st = ⟨134, [(1, eI (n : Int)), (2, sI c), (4, .op 0 0 0), (10, .op 2 0 0)], [(0, zBox X z.gaps), (1, sRow (List.replicate z.cls.length 0)), (2, sBox X z.gaps cap 1)], 3⟩) (sc_of mixedT ?_) ?_
  · (repeat' (first | simp (maxSteps := 5000000) (implicitDefEqProofs := false) only [ruA, ruB, aEv, aTake, aLoad, aField, aIndex, aLen, aBin, bin2, aUn, un1, aExtract, aConv, ASt.get, aget, ASt.put, aStore, aBox, aAppend, aBuildSlice, aMake, aBuild, aFill, oneParts, allC, aBinS, yv, aCells, oneC, oneCL, treeC, treeL, aLit, aDst, aSrc, appTab, Value.cells, Value.oneCell', envOf, aResL, aOne, ↓reduceIte, reduceCtorEq, forall_const, Nat.reduceLT, Nat.reduceEqDiff, Nat.reduceAdd, Nat.reduceMul, Nat.reduceSub, Nat.reduceLeDiff, Nat.reduceBEq, eq_self, implies_true, ne_eq, dref, dref1, dref2, aExecS, aStoreB, aTakes, aTakeE, aElder, aFrom, aFresh, isLoad, aBuildSlice1, frzs, frz1, ownIds, AV.frz, AV.frzL, frzEnv, AV.shift, AV.shiftL, aFieldV, aSliceW, aSliceO, aSlice, aSliceR, aSliceS, aBd, aMax, frzAVs, frzAV, frzTab, AObj.frz, aMM, aNilS, aMay, aNil, tyA_25, tyS_25, tyF_25_0, tyA_22, tyS_22, tyE_22, tyK_22, tyR_26, tyZ_2, tyB_41, tyE_23, tyK_23, tyK_3, tyA_3, tyS_3, tyF_41_2, tyA_26, tyS_26, tyE_26, tyA_2, tyS_2, tyF_41_3, tyA_4, tyS_4, tyA_37, tyS_37, tyZ_37, tyF_37_0] | (with_reducible refine aIf_split (fun _ => ?_) (fun _ => ?_)) | (with_reducible refine aSel_split (fun _ => ?_) (fun _ => ?_)) | (with_reducible refine aGd_split (fun _ => ?_) (fun _ => ?_))))
    refine aDraw_held [] [0, 1, 3, 4, 5] (.two 2 (.exec 6 (.take 7 (.exec 8 (.exec 9 .done)))) 6 (.exec 2 (.take 7 (.exec 8 (.exec 9 .done))))) (by kernel_rfl) (by simp [ATab.get_cons]) ?_
    (repeat' (first | simp (maxSteps := 5000000) (implicitDefEqProofs := false) only [ruA, ruB, aEv, aTake, aLoad, aField, aIndex, aLen, aBin, bin2, aUn, un1, aExtract, aConv, ASt.get, aget, ASt.put, aStore, aBox, aAppend, aBuildSlice, aMake, aBuild, aFill, oneParts, allC, aBinS, yv, aCells, oneC, oneCL, treeC, treeL, aLit, aDst, aSrc, appTab, Value.cells, Value.oneCell', envOf, aResL, aOne, ↓reduceIte, reduceCtorEq, forall_const, Nat.reduceLT, Nat.reduceEqDiff, Nat.reduceAdd, Nat.reduceMul, Nat.reduceSub, Nat.reduceLeDiff, Nat.reduceBEq, eq_self, implies_true, ne_eq, dref, dref1, dref2, aExecS, aStoreB, aTakes, aTakeE, aElder, aFrom, aFresh, isLoad, aBuildSlice1, frzs, frz1, ownIds, AV.frz, AV.frzL, frzEnv, AV.shift, AV.shiftL, aFieldV, aSliceW, aSliceO, aSlice, aSliceR, aSliceS, aBd, aMax, frzAVs, frzAV, frzTab, AObj.frz, aMM, aNilS, aMay, aNil, tyA_25, tyS_25, tyF_25_0, tyA_22, tyS_22, tyE_22, tyK_22, tyR_26, tyZ_2, tyB_41, tyE_23, tyK_23, tyK_3, tyA_3, tyS_3, tyF_41_2, tyA_26, tyS_26, tyE_26, tyA_2, tyS_2, tyF_41_3, tyA_4, tyS_4, tyA_37, tyS_37, tyZ_37, tyF_37_0, hXl, hrep] | (with_reducible refine aIf_split (fun _ => ?_) (fun _ => ?_)) | (with_reducible refine aSel_split (fun _ => ?_) (fun _ => ?_)) | (with_reducible refine aGd_split (fun _ => ?_) (fun _ => ?_)) | (with_reducible refine aDraw_quiet (by kernel_rfl) ?_) | ((with_reducible apply callV); exact (hCap)) | ((with_reducible apply callD); exact (hCap)) | (with_reducible apply And.intro)))
    all_goals first
      | omega
      | exact aTo_mk (weak_cut1 (by (first | ((simp only [envIn, tabIn, envLt, tabLt, AObj.lt, AV.lt, AV.ltL, ruW, ASt.get, aget, ASt.put, ↓reduceIte, reduceCtorEq, Nat.reduceLT, Nat.reduceEqDiff, Nat.reduceAdd, Nat.reduceLeDiff, eq_self, implies_true]) <;> (repeat' apply And.intro) <;> first | (rw [wrapK (by omega)]; done) | (simp; done) | omega) | fail))) rfl
      | trace_state
  rintro _ rfl
  have hX2 : ADet Try.prog 13 [.agg [.sl 2 X, sI z.gaps]] (own 3 1 ((fixL z).map fun n : Nat => [eI (n : Int)])) := by rw [hXX]; exact hX
  clear hX hCk ht
  obtain ⟨fx, hfx⟩ : ∃ fx, fx = fixL z := ⟨_, rfl⟩
  refine sc_cut (fun st => st = ⟨134, [(1, eI (n : Int)), (2, sI c), (4, .op 0 0 0), (10, .op 2 0 0), (11, .sl 1 (fx.map fun n : Nat => [eI (n : Int)]))], [(0, zBox X z.gaps), (1, sRow (List.replicate z.cls.length 0)), (2, sBox X z.gaps cap 1)], 3⟩) (sc_of mixedT ?_) ?_
  · rw [hfx]
    (repeat' (first | simp (maxSteps := 5000000) (implicitDefEqProofs := false) only [ruA, ruB, aEv, aTake, aLoad, aField, aIndex, aLen, aBin, bin2, aUn, un1, aExtract, aConv, ASt.get, aget, ASt.put, aStore, aBox, aAppend, aBuildSlice, aMake, aBuild, aFill, oneParts, allC, aBinS, yv, aCells, oneC, oneCL, treeC, treeL, aLit, aDst, aSrc, appTab, Value.cells, Value.oneCell', envOf, aResL, aOne, ↓reduceIte, reduceCtorEq, forall_const, Nat.reduceLT, Nat.reduceEqDiff, Nat.reduceAdd, Nat.reduceMul, Nat.reduceSub, Nat.reduceLeDiff, Nat.reduceBEq, eq_self, implies_true, ne_eq, dref, dref1, dref2, aExecS, aStoreB, aTakes, aTakeE, aElder, aFrom, aFresh, isLoad, aBuildSlice1, frzs, frz1, ownIds, AV.frz, AV.frzL, frzEnv, AV.shift, AV.shiftL, aFieldV, aSliceW, aSliceO, aSlice, aSliceR, aSliceS, aBd, aMax, frzAVs, frzAV, frzTab, AObj.frz, aMM, aNilS, aMay, aNil, tyA_25, tyS_25, tyF_25_0, tyA_22, tyS_22, tyE_22, tyK_22, tyR_26, tyZ_2, tyB_41, tyE_23, tyK_23, tyK_3, tyA_3, tyS_3, tyF_41_2, tyA_26, tyS_26, tyE_26, tyA_2, tyS_2, tyF_41_3, tyA_4, tyS_4, tyA_37, tyS_37, tyZ_37, tyF_37_0] | (with_reducible refine aIf_split (fun _ => ?_) (fun _ => ?_)) | (with_reducible refine aSel_split (fun _ => ?_) (fun _ => ?_)) | (with_reducible refine aGd_split (fun _ => ?_) (fun _ => ?_))))
    refine callO hX2 (.inr (fun row hr av ha => by
      obtain ⟨m, _, rfl⟩ := List.mem_map.1 hr
      simp at ha
      rw [ha]
      trivial)) ?_
    (repeat' (first | simp (maxSteps := 5000000) (implicitDefEqProofs := false) only [ruA, ruB, aEv, aTake, aLoad, aField, aIndex, aLen, aBin, bin2, aUn, un1, aExtract, aConv, ASt.get, aget, ASt.put, aStore, aBox, aAppend, aBuildSlice, aMake, aBuild, aFill, oneParts, allC, aBinS, yv, aCells, oneC, oneCL, treeC, treeL, aLit, aDst, aSrc, appTab, Value.cells, Value.oneCell', envOf, aResL, aOne, ↓reduceIte, reduceCtorEq, forall_const, Nat.reduceLT, Nat.reduceEqDiff, Nat.reduceAdd, Nat.reduceMul, Nat.reduceSub, Nat.reduceLeDiff, Nat.reduceBEq, eq_self, implies_true, ne_eq, dref, dref1, dref2, aExecS, aStoreB, aTakes, aTakeE, aElder, aFrom, aFresh, isLoad, aBuildSlice1, frzs, frz1, ownIds, AV.frz, AV.frzL, frzEnv, AV.shift, AV.shiftL, aFieldV, aSliceW, aSliceO, aSlice, aSliceR, aSliceS, aBd, aMax, frzAVs, frzAV, frzTab, AObj.frz, aMM, aNilS, aMay, aNil, tyA_25, tyS_25, tyF_25_0, tyA_22, tyS_22, tyE_22, tyK_22, tyR_26, tyZ_2, tyB_41, tyE_23, tyK_23, tyK_3, tyA_3, tyS_3, tyF_41_2, tyA_26, tyS_26, tyE_26, tyA_2, tyS_2, tyF_41_3, tyA_4, tyS_4, tyA_37, tyS_37, tyZ_37, tyF_37_0] | (with_reducible refine aIf_split (fun _ => ?_) (fun _ => ?_)) | (with_reducible refine aSel_split (fun _ => ?_) (fun _ => ?_)) | (with_reducible refine aGd_split (fun _ => ?_) (fun _ => ?_))))
    refine aTo_mk ((weak_frz _ 3).trans ?_) rfl
    simp [frz1, frzEnv, frzTab, ATab.get_cons, AObj.frz, AV.frz, AV.frzL]
    exact (weak_cut1 (by (first | ((simp only [envIn, tabIn, envLt, tabLt, AObj.lt, AV.lt, AV.ltL, ruW, ASt.get, aget, ASt.put, ↓reduceIte, reduceCtorEq, Nat.reduceLT, Nat.reduceEqDiff, Nat.reduceAdd, Nat.reduceLeDiff, eq_self, implies_true]) <;> (repeat' apply And.intro) <;> first | (rw [wrapK (by omega)]; done) | (simp; done) | omega) | fail)))
  rintro _ rfl
  have fxl : fx.length ≤ 40 := by rw [hfx]; exact hF40
  have fxsc : fx.length = sc.length := by rw [hfx]; exact hFl
  have hfm2 : ∀ j (h : j < fx.length), fx[j] < z.cls.length := fun j h => by subst hfx; exact hfm j h
  have hup2 : ∀ s t (hs : s < fx.length) (ht : t < fx.length), s < t → fx[s] < fx[t] := fun s t hs ht hst => by subst hfx; exact List.pairwise_iff_getElem.1 (fixI_up z.cls z.cls.length) s t hs ht hst
  refine sc_cut (fun st => ∃ A : List Int, A.length = z.cls.length ∧ (fx.length = 0 → A = List.replicate z.cls.length 0) ∧ (∀ j (h : j < fx.length), A.getD fx[j] 0 = sc.getD j 0) ∧ BdA A ∧ st = ⟨134, [(1, eI (n : Int)), (2, sI c), (4, .op 0 0 0), (10, .op 2 0 0), (11, .sl 1 (fx.map fun n : Nat => [eI (n : Int)]))], [(0, zBox X z.gaps), (1, sRow A), (2, sBox X z.gaps cap 1)], 3⟩) (sc_of mixedT ?_) ?_
  · (repeat' (first | simp (maxSteps := 5000000) (implicitDefEqProofs := false) only [ruA, ruB, aEv, aTake, aLoad, aField, aIndex, aLen, aBin, bin2, aUn, un1, aExtract, aConv, ASt.get, aget, ASt.put, aStore, aBox, aAppend, aBuildSlice, aMake, aBuild, aFill, oneParts, allC, aBinS, yv, aCells, oneC, oneCL, treeC, treeL, aLit, aDst, aSrc, appTab, Value.cells, Value.oneCell', envOf, aResL, aOne, ↓reduceIte, reduceCtorEq, forall_const, Nat.reduceLT, Nat.reduceEqDiff, Nat.reduceAdd, Nat.reduceMul, Nat.reduceSub, Nat.reduceLeDiff, Nat.reduceBEq, eq_self, implies_true, ne_eq, dref, dref1, dref2, aExecS, aStoreB, aTakes, aTakeE, aElder, aFrom, aFresh, isLoad, aBuildSlice1, frzs, frz1, ownIds, AV.frz, AV.frzL, frzEnv, AV.shift, AV.shiftL, aFieldV, aSliceW, aSliceO, aSlice, aSliceR, aSliceS, aBd, aMax, frzAVs, frzAV, frzTab, AObj.frz, aMM, aNilS, aMay, aNil, tyA_25, tyS_25, tyF_25_0, tyA_22, tyS_22, tyE_22, tyK_22, tyR_26, tyZ_2, tyB_41, tyE_23, tyK_23, tyK_3, tyA_3, tyS_3, tyF_41_2, tyA_26, tyS_26, tyE_26, tyA_2, tyS_2, tyF_41_3, tyA_4, tyS_4, tyA_37, tyS_37, tyZ_37, tyF_37_0] | (with_reducible refine aIf_split (fun _ => ?_) (fun _ => ?_)) | (with_reducible refine aSel_split (fun _ => ?_) (fun _ => ?_)) | (with_reducible refine aGd_split (fun _ => ?_) (fun _ => ?_))))
    refine aLoop_of (fun st => ∃ (k : Nat) (A : List Int), k ≤ fx.length ∧ A.length = z.cls.length ∧ (fx.length = 0 → A = List.replicate z.cls.length 0) ∧ (∀ j (h : j < fx.length), j < k → A.getD fx[j] 0 = sc.getD j 0) ∧ BdA A ∧ st = ⟨134, [(1, eI (n : Int)), (2, sI c), (4, .op 0 0 0), (10, .op 2 0 0), (11, .sl 1 (fx.map fun n : Nat => [eI (n : Int)])), (38, .sl 1 (fx.map fun n : Nat => [eI (n : Int)])), (39, eI (fx.length : Int)), (40, eI (k : Int))], [(0, zBox X z.gaps), (1, sRow A), (2, sBox X z.gaps cap 1)], 3⟩) (fun st => fx.length - slotN st 40) ⟨_, (weak_cut1 (by (first | ((simp only [envIn, tabIn, envLt, tabLt, AObj.lt, AV.lt, AV.ltL, ruW, ASt.get, aget, ASt.put, ↓reduceIte, reduceCtorEq, Nat.reduceLT, Nat.reduceEqDiff, Nat.reduceAdd, Nat.reduceLeDiff, eq_self, implies_true, List.length_map]) <;> (repeat' apply And.intro) <;> first | (rw [wrapK (by omega)]; done) | (simp; done) | omega) | fail))), 0, _, Nat.zero_le _, List.length_replicate .., fun _ => rfl, fun j _ h => by omega, fun i => by rw [List.getD_eq_getElem?_getD, List.getElem?_replicate]; split <;> simp, rfl⟩ ?_
    rintro _ ⟨k, A, hk, hAl, hA0, hAf, hAb, rfl⟩
    by_cases hlt : k < fx.length
    · have d1 : decide (k < fx.length) = true := decide_eq_true hlt
      have hlt2 : k < sc.length := by omega
      have hlt3 := hfm2 k hlt
      have hupk := fun j (hj : j < fx.length) (hjk : j < k) => hup2 j k hj hlt hjk
      have hyb := hscb _ (List.getElem_mem hlt2)
      have hset : (A.map fun n : Int => [eI n]).set fx[k] [eI sc[k]] = (A.set fx[k] sc[k]).map fun n => [eI n] := List.map_set.symm
      have hnew : ∀ j (h : j < fx.length), j < k + 1 → (A.set fx[k] sc[k]).getD fx[j] 0 = sc.getD j 0 := fun j hj hjk => by
        rw [getD_set _ _ _ _ (by omega)]
        rcases Nat.lt_or_ge j k with h | h
        · have := hupk j hj h
          rw [if_neg (by omega)]
          exact hAf j hj h
        · obtain rfl : j = k := by omega
          rw [if_pos rfl, gD_at hlt2]
      generalize hx : fx[k] = x at *
      generalize hy : sc[k] = y at *
      have hlt4 : x < A.length := by omega
      have hbn : BdA (A.set x y) := fun i => by
        rw [getD_set _ _ _ _ hlt4]
        split
        · omega
        · exact hAb i
      have w1 : IntKind.i64.wrap ((k : Int) + 1) = ((k + 1 : Nat) : Int) := wrapK (by omega)
      (repeat' (first | simp (maxSteps := 5000000) (implicitDefEqProofs := false) only [ruA, ruB, aEv, aTake, aLoad, aField, aIndex, aLen, aBin, bin2, aUn, un1, aExtract, aConv, ASt.get, aget, ASt.put, aStore, aBox, aAppend, aBuildSlice, aMake, aBuild, aFill, oneParts, allC, aBinS, yv, aCells, oneC, oneCL, treeC, treeL, aLit, aDst, aSrc, appTab, Value.cells, Value.oneCell', envOf, aResL, aOne, ↓reduceIte, reduceCtorEq, forall_const, Nat.reduceLT, Nat.reduceEqDiff, Nat.reduceAdd, Nat.reduceMul, Nat.reduceSub, Nat.reduceLeDiff, Nat.reduceBEq, eq_self, implies_true, ne_eq, dref, dref1, dref2, aExecS, aStoreB, aTakes, aTakeE, aElder, aFrom, aFresh, isLoad, aBuildSlice1, frzs, frz1, ownIds, AV.frz, AV.frzL, frzEnv, AV.shift, AV.shiftL, aFieldV, aSliceW, aSliceO, aSlice, aSliceR, aSliceS, aBd, aMax, frzAVs, frzAV, frzTab, AObj.frz, aMM, aNilS, aMay, aNil, tyA_25, tyS_25, tyF_25_0, tyA_22, tyS_22, tyE_22, tyK_22, tyR_26, tyZ_2, tyB_41, tyE_23, tyK_23, tyK_3, tyA_3, tyS_3, tyF_41_2, tyA_26, tyS_26, tyE_26, tyA_2, tyS_2, tyF_41_3, tyA_4, tyS_4, tyA_37, tyS_37, tyZ_37, tyF_37_0, d1, row_at, hlt, hx, List.length_map] | (with_reducible refine aIf_split (fun _ => ?_) (fun _ => ?_)) | (with_reducible refine aSel_split (fun _ => ?_) (fun _ => ?_)) | (with_reducible refine aGd_split (fun _ => ?_) (fun _ => ?_))))
      refine aDraw_held [1] [0, 1, 2, 3, 4, 5, 7] (.exec 6 (.take 8 (.exec 9 (.take 10 (.exec 11 .done))))) (by kernel_rfl) (by simp [ATab.get_cons]) ?_
      (repeat' (first | simp (maxSteps := 5000000) (implicitDefEqProofs := false) only [ruA, ruB, aEv, aTake, aLoad, aField, aIndex, aLen, aBin, bin2, aUn, un1, aExtract, aConv, ASt.get, aget, ASt.put, aStore, aBox, aAppend, aBuildSlice, aMake, aBuild, aFill, oneParts, allC, aBinS, yv, aCells, oneC, oneCL, treeC, treeL, aLit, aDst, aSrc, appTab, Value.cells, Value.oneCell', envOf, aResL, aOne, ↓reduceIte, reduceCtorEq, forall_const, Nat.reduceLT, Nat.reduceEqDiff, Nat.reduceAdd, Nat.reduceMul, Nat.reduceSub, Nat.reduceLeDiff, Nat.reduceBEq, eq_self, implies_true, ne_eq, dref, dref1, dref2, aExecS, aStoreB, aTakes, aTakeE, aElder, aFrom, aFresh, isLoad, aBuildSlice1, frzs, frz1, ownIds, AV.frz, AV.frzL, frzEnv, AV.shift, AV.shiftL, aFieldV, aSliceW, aSliceO, aSlice, aSliceR, aSliceS, aBd, aMax, frzAVs, frzAV, frzTab, AObj.frz, aMM, aNilS, aMay, aNil, tyA_25, tyS_25, tyF_25_0, tyA_22, tyS_22, tyE_22, tyK_22, tyR_26, tyZ_2, tyB_41, tyE_23, tyK_23, tyK_3, tyA_3, tyS_3, tyF_41_2, tyA_26, tyS_26, tyE_26, tyA_2, tyS_2, tyF_41_3, tyA_4, tyS_4, tyA_37, tyS_37, tyZ_37, tyF_37_0, row_at, hlt, hlt2, hlt3, hlt4, hx, hy, hAl, w1, hset, Int.natCast_nonneg, Int.ofNat_lt, List.length_map, List.take_zero, List.nil_append, List.drop_zero] | (with_reducible refine aIf_split (fun _ => ?_) (fun _ => ?_)) | (with_reducible refine aSel_split (fun _ => ?_) (fun _ => ?_)) | (with_reducible refine aGd_split (fun _ => ?_) (fun _ => ?_)) | (with_reducible refine aDraw_quiet (by kernel_rfl) ?_) | ((with_reducible apply callT); exact (hS); exact (.inl (by simp [roL, roA, treeL, treeC])))))

      all_goals exact roundI (weak_cut1 (by (first | ((simp only [envIn, tabIn, envLt, tabLt, AObj.lt, AV.lt, AV.ltL, ruW, ASt.get, aget, ASt.put, ↓reduceIte, reduceCtorEq, Nat.reduceLT, Nat.reduceEqDiff, Nat.reduceAdd, Nat.reduceLeDiff, eq_self, implies_true, List.length_map]) <;> (repeat' apply And.intro) <;> first | (rw [wrapK (by omega)]; done) | (simp; done) | omega) | fail))) ⟨k + 1, A.set x y, by omega, by rw [List.length_set, hAl], fun h => by omega, hnew, hbn, rfl⟩ (by simp only [slotN, ruW, ASt.get, aget, ASt.put, ↓reduceIte, reduceCtorEq, Nat.reduceLT, Nat.reduceEqDiff, Nat.reduceAdd, Nat.reduceLeDiff, eq_self, implies_true]; omega)
    · obtain rfl : k = fx.length := by omega
      (repeat' (first | simp (maxSteps := 5000000) (implicitDefEqProofs := false) only [ruA, ruB, aEv, aTake, aLoad, aField, aIndex, aLen, aBin, bin2, aUn, un1, aExtract, aConv, ASt.get, aget, ASt.put, aStore, aBox, aAppend, aBuildSlice, aMake, aBuild, aFill, oneParts, allC, aBinS, yv, aCells, oneC, oneCL, treeC, treeL, aLit, aDst, aSrc, appTab, Value.cells, Value.oneCell', envOf, aResL, aOne, ↓reduceIte, reduceCtorEq, forall_const, Nat.reduceLT, Nat.reduceEqDiff, Nat.reduceAdd, Nat.reduceMul, Nat.reduceSub, Nat.reduceLeDiff, Nat.reduceBEq, eq_self, implies_true, ne_eq, dref, dref1, dref2, aExecS, aStoreB, aTakes, aTakeE, aElder, aFrom, aFresh, isLoad, aBuildSlice1, frzs, frz1, ownIds, AV.frz, AV.frzL, frzEnv, AV.shift, AV.shiftL, aFieldV, aSliceW, aSliceO, aSlice, aSliceR, aSliceS, aBd, aMax, frzAVs, frzAV, frzTab, AObj.frz, aMM, aNilS, aMay, aNil, tyA_25, tyS_25, tyF_25_0, tyA_22, tyS_22, tyE_22, tyK_22, tyR_26, tyZ_2, tyB_41, tyE_23, tyK_23, tyK_3, tyA_3, tyS_3, tyF_41_2, tyA_26, tyS_26, tyE_26, tyA_2, tyS_2, tyF_41_3, tyA_4, tyS_4, tyA_37, tyS_37, tyZ_37, tyF_37_0, hlt] | (with_reducible refine aIf_split (fun _ => ?_) (fun _ => ?_)) | (with_reducible refine aSel_split (fun _ => ?_) (fun _ => ?_)) | (with_reducible refine aGd_split (fun _ => ?_) (fun _ => ?_))))
      refine aTo_mk ?_ ⟨A, hAl, hA0, fun j h => hAf j h h, hAb, rfl⟩
      exact (weak_cut1 (by (first | ((simp only [envIn, tabIn, envLt, tabLt, AObj.lt, AV.lt, AV.ltL, ruW, ASt.get, aget, ASt.put, ↓reduceIte, reduceCtorEq, Nat.reduceLT, Nat.reduceEqDiff, Nat.reduceAdd, Nat.reduceLeDiff, eq_self, implies_true]) <;> (repeat' apply And.intro) <;> first | (rw [wrapK (by omega)]; done) | (simp; done) | omega) | fail)))
  rintro _ ⟨A, hAl, hA0, hAf, hAb, rfl⟩
  have hfxD : ∀ t (h : t < fx.length), (fixL z).getD t 0 = fx[t] := fun t h => by
    subst hfx
    rw [List.getD_eq_getElem?_getD, List.getElem?_eq_getElem h]
    rfl
  have hfxl : (fixL z).length = fx.length := by rw [hfx]
  have hInv0 : SmpInv z sc cap A 0 := ⟨hAl, fun t h => by rw [hfxD t (by omega)]; exact hAf t (by omega), fun i h => by omega, hAb⟩
  have hSB : SmpB z sc := ⟨h1, hgg, fun t => by
    rcases Nat.lt_or_ge t sc.length with h | h
    · rw [gD_at h]
      exact hscb _ (List.getElem_mem h)
    · rw [List.getD_eq_getElem?_getD, List.getElem?_eq_none h]
      simp⟩
  clear hAf hAb
  have hsm : ∀ A : List Int, A.length = z.cls.length → SmpOk z.gaps A := fun A h => ⟨by omega, by omega, hgg⟩
  have hscD : ∀ t, t < fx.length → -4398046511104 ≤ sc.getD t 0 ∧ sc.getD t 0 ≤ 4398046511104 := fun t h => by
    rw [gD_at (by omega)]
    have := hscb _ (List.getElem_mem (by omega : t < sc.length))
    omega
  refine sc_cut (fun st => ∃ A : List Int, SmpInv z sc cap A (uptoN z 0) ∧ st = ⟨134, [(1, eI (n : Int)), (2, sI c), (4, .op 0 0 0), (10, .op 2 0 0), (11, .sl 1 (fx.map fun n : Nat => [eI (n : Int)]))], [(0, zBox X z.gaps), (1, sRow A), (2, sBox X z.gaps cap 1)], 3⟩) (sc_of mixedT ?_) ?_
  · by_cases h0 : fx.length = 0
    · have b0 : ((fx.length : Int) == 0) = true := by rw [h0]; rfl
      have hA00 := hA0 h0
      (repeat' (first | simp (maxSteps := 5000000) (implicitDefEqProofs := false) only [ruA, ruB, aEv, aTake, aLoad, aField, aIndex, aLen, aBin, bin2, aUn, un1, aExtract, aConv, ASt.get, aget, ASt.put, aStore, aBox, aAppend, aBuildSlice, aMake, aBuild, aFill, oneParts, allC, aBinS, yv, aCells, oneC, oneCL, treeC, treeL, aLit, aDst, aSrc, appTab, Value.cells, Value.oneCell', envOf, aResL, aOne, ↓reduceIte, reduceCtorEq, forall_const, Nat.reduceLT, Nat.reduceEqDiff, Nat.reduceAdd, Nat.reduceMul, Nat.reduceSub, Nat.reduceLeDiff, Nat.reduceBEq, eq_self, implies_true, ne_eq, dref, dref1, dref2, aExecS, aStoreB, aTakes, aTakeE, aElder, aFrom, aFresh, isLoad, aBuildSlice1, frzs, frz1, ownIds, AV.frz, AV.frzL, frzEnv, AV.shift, AV.shiftL, aFieldV, aSliceW, aSliceO, aSlice, aSliceR, aSliceS, aBd, aMax, frzAVs, frzAV, frzTab, AObj.frz, aMM, aNilS, aMay, aNil, tyA_25, tyS_25, tyF_25_0, tyA_22, tyS_22, tyE_22, tyK_22, tyR_26, tyZ_2, tyB_41, tyE_23, tyK_23, tyK_3, tyA_3, tyS_3, tyF_41_2, tyA_26, tyS_26, tyE_26, tyA_2, tyS_2, tyF_41_3, tyA_4, tyS_4, tyA_37, tyS_37, tyZ_37, tyF_37_0, b0, List.length_map, hXl] | (with_reducible refine aIf_split (fun _ => ?_) (fun _ => ?_)) | (with_reducible refine aSel_split (fun _ => ?_) (fun _ => ?_)) | (with_reducible refine aGd_split (fun _ => ?_) (fun _ => ?_))))
      refine callI ?_
      refine up_I (b := 2) (a := 1) (x2 := 0) (x3 := 1000) (ts := [1, 2, 4, 10, 11]) (env := [(1, eI (n : Int)), (2, sI c), (4, .op 2 0 0), (10, .op 0 0 0), (11, .sl 1 (fx.map fun n : Nat => [eI (n : Int)]))]) (o2 := zBox X z.gaps) (o3 := none) (X := X) (g := z.gaps) (cap := cap) (A := A) 0 z.cls.length ⟨rfl, rfl, fun o e => by cases e; exact ⟨rfl, trivial, trivial, trivial⟩, fun o e => (by cases e), (by simp), rfl, ⟨trivial, trivial, (by show (2 : Nat) < 5; omega), (by show (0 : Nat) < 5; omega), trivial, trivial⟩⟩ (hsm A hAl) (by omega) (by omega) (by rw [hA00]; simp [List.getD_eq_getElem?_getD, List.getElem?_replicate]; split <;> simp) fun vs2 A' hU => ?_
      (repeat' (first | simp (maxSteps := 5000000) (implicitDefEqProofs := false) only [ruA, ruB, aEv, aTake, aLoad, aField, aIndex, aLen, aBin, bin2, aUn, un1, aExtract, aConv, ASt.get, aget, ASt.put, aStore, aBox, aAppend, aBuildSlice, aMake, aBuild, aFill, oneParts, allC, aBinS, yv, aCells, oneC, oneCL, treeC, treeL, aLit, aDst, aSrc, appTab, Value.cells, Value.oneCell', envOf, aResL, aOne, ↓reduceIte, reduceCtorEq, forall_const, Nat.reduceLT, Nat.reduceEqDiff, Nat.reduceAdd, Nat.reduceMul, Nat.reduceSub, Nat.reduceLeDiff, Nat.reduceBEq, eq_self, implies_true, ne_eq, dref, dref1, dref2, aExecS, aStoreB, aTakes, aTakeE, aElder, aFrom, aFresh, isLoad, aBuildSlice1, frzs, frz1, ownIds, AV.frz, AV.frzL, frzEnv, AV.shift, AV.shiftL, aFieldV, aSliceW, aSliceO, aSlice, aSliceR, aSliceS, aBd, aMax, frzAVs, frzAV, frzTab, AObj.frz, aMM, aNilS, aMay, aNil, tyA_25, tyS_25, tyF_25_0, tyA_22, tyS_22, tyE_22, tyK_22, tyR_26, tyZ_2, tyB_41, tyE_23, tyK_23, tyK_3, tyA_3, tyS_3, tyF_41_2, tyA_26, tyS_26, tyE_26, tyA_2, tyS_2, tyF_41_3, tyA_4, tyS_4, tyA_37, tyS_37, tyZ_37, tyF_37_0, smpSt, shiftT_nil, shiftT_some, shiftT_none, AObj.shift, shiftEnv] | (with_reducible refine aIf_split (fun _ => ?_) (fun _ => ?_)) | (with_reducible refine aSel_split (fun _ => ?_) (fun _ => ?_)) | (with_reducible refine aGd_split (fun _ => ?_) (fun _ => ?_)) | (with_reducible refine aDraw_quiet (by kernel_rfl) ?_)))
      refine aTo_mk (weak_ren1 [5, 4, 3] ⟨(by decide), (by (first | ((simp only [envInR, tabInR, envLt, tabLt, AObj.lt, AV.lt, AV.ltL, AV.ren, AV.renL, AObj.ren, List.getD_cons_zero, List.getD_cons_succ, List.length_cons, List.length_nil, ruW, ASt.get, aget, ASt.put, ↓reduceIte, reduceCtorEq, Nat.reduceLT, Nat.reduceEqDiff, Nat.reduceAdd, Nat.reduceLeDiff, eq_self, implies_true]) <;> (repeat' apply And.intro) <;> first | (rw [wrapK (by omega)]; done) | (simp; done) | omega) | fail))⟩) ⟨A', ?_, rfl⟩
      have h9 := hInv0.none hU (by omega) (by rw [hA0 (by omega), List.getD_eq_getElem?_getD, List.getElem?_replicate]; split <;> rfl) hSB
      unfold uptoN
      rw [if_pos (by omega)]
      exact h9
    · have b0 : ((fx.length : Int) == 0) = false := by rw [beq_eq_false_iff_ne]; omega
      (repeat' (first | simp (maxSteps := 5000000) (implicitDefEqProofs := false) only [ruA, ruB, aEv, aTake, aLoad, aField, aIndex, aLen, aBin, bin2, aUn, un1, aExtract, aConv, ASt.get, aget, ASt.put, aStore, aBox, aAppend, aBuildSlice, aMake, aBuild, aFill, oneParts, allC, aBinS, yv, aCells, oneC, oneCL, treeC, treeL, aLit, aDst, aSrc, appTab, Value.cells, Value.oneCell', envOf, aResL, aOne, ↓reduceIte, reduceCtorEq, forall_const, Nat.reduceLT, Nat.reduceEqDiff, Nat.reduceAdd, Nat.reduceMul, Nat.reduceSub, Nat.reduceLeDiff, Nat.reduceBEq, eq_self, implies_true, ne_eq, dref, dref1, dref2, aExecS, aStoreB, aTakes, aTakeE, aElder, aFrom, aFresh, isLoad, aBuildSlice1, frzs, frz1, ownIds, AV.frz, AV.frzL, frzEnv, AV.shift, AV.shiftL, aFieldV, aSliceW, aSliceO, aSlice, aSliceR, aSliceS, aBd, aMax, frzAVs, frzAV, frzTab, AObj.frz, aMM, aNilS, aMay, aNil, tyA_25, tyS_25, tyF_25_0, tyA_22, tyS_22, tyE_22, tyK_22, tyR_26, tyZ_2, tyB_41, tyE_23, tyK_23, tyK_3, tyA_3, tyS_3, tyF_41_2, tyA_26, tyS_26, tyE_26, tyA_2, tyS_2, tyF_41_3, tyA_4, tyS_4, tyA_37, tyS_37, tyZ_37, tyF_37_0, b0, List.length_map] | (with_reducible refine aIf_split (fun _ => ?_) (fun _ => ?_)) | (with_reducible refine aSel_split (fun _ => ?_) (fun _ => ?_)) | (with_reducible refine aGd_split (fun _ => ?_) (fun _ => ?_))))
      refine aTo_mk (weak_cut1 (by (first | ((simp only [envIn, tabIn, envLt, tabLt, AObj.lt, AV.lt, AV.ltL, ruW, ASt.get, aget, ASt.put, ↓reduceIte, reduceCtorEq, Nat.reduceLT, Nat.reduceEqDiff, Nat.reduceAdd, Nat.reduceLeDiff, eq_self, implies_true]) <;> (repeat' apply And.intro) <;> first | (rw [wrapK (by omega)]; done) | (simp; done) | omega) | fail))) ⟨A, ?_, rfl⟩
      unfold uptoN
      rw [if_neg (by omega), if_pos rfl]
      exact hInv0
  clear hInv0 hA0 hAl
  rintro _ ⟨A, hInv, rfl⟩
  refine sc_cut (fun st => ∃ A : List Int, SmpInv z sc cap A (z.cls.length - 1) ∧ st = ⟨134, [(1, eI (n : Int)), (2, sI c), (4, .op 0 0 0), (10, .op 2 0 0), (11, .sl 1 (fx.map fun n : Nat => [eI (n : Int)]))], [(0, zBox X z.gaps), (1, sRow A), (2, sBox X z.gaps cap 1)], 3⟩) (sc_of mixedT ?_) ?_
  · (repeat' (first | simp (maxSteps := 5000000) (implicitDefEqProofs := false) only [ruA, ruB, aEv, aTake, aLoad, aField, aIndex, aLen, aBin, bin2, aUn, un1, aExtract, aConv, ASt.get, aget, ASt.put, aStore, aBox, aAppend, aBuildSlice, aMake, aBuild, aFill, oneParts, allC, aBinS, yv, aCells, oneC, oneCL, treeC, treeL, aLit, aDst, aSrc, appTab, Value.cells, Value.oneCell', envOf, aResL, aOne, ↓reduceIte, reduceCtorEq, forall_const, Nat.reduceLT, Nat.reduceEqDiff, Nat.reduceAdd, Nat.reduceMul, Nat.reduceSub, Nat.reduceLeDiff, Nat.reduceBEq, eq_self, implies_true, ne_eq, dref, dref1, dref2, aExecS, aStoreB, aTakes, aTakeE, aElder, aFrom, aFresh, isLoad, aBuildSlice1, frzs, frz1, ownIds, AV.frz, AV.frzL, frzEnv, AV.shift, AV.shiftL, aFieldV, aSliceW, aSliceO, aSlice, aSliceR, aSliceS, aBd, aMax, frzAVs, frzAV, frzTab, AObj.frz, aMM, aNilS, aMay, aNil, tyA_25, tyS_25, tyF_25_0, tyA_22, tyS_22, tyE_22, tyK_22, tyR_26, tyZ_2, tyB_41, tyE_23, tyK_23, tyK_3, tyA_3, tyS_3, tyF_41_2, tyA_26, tyS_26, tyE_26, tyA_2, tyS_2, tyF_41_3, tyA_4, tyS_4, tyA_37, tyS_37, tyZ_37, tyF_37_0, List.length_map] | (with_reducible refine aIf_split (fun _ => ?_) (fun _ => ?_)) | (with_reducible refine aSel_split (fun _ => ?_) (fun _ => ?_)) | (with_reducible refine aGd_split (fun _ => ?_) (fun _ => ?_))))
    refine aLoop_of (fun st => ∃ (k : Nat) (A : List Int), k ≤ fx.length ∧ SmpInv z sc cap A (uptoN z k) ∧ st = ⟨134, [(1, eI (n : Int)), (2, sI c), (4, .op 0 0 0), (10, .op 2 0 0), (11, .sl 1 (fx.map fun n : Nat => [eI (n : Int)])), (65, .sl 1 (fx.map fun n : Nat => [eI (n : Int)])), (66, eI (fx.length : Int)), (67, eI (k : Int))], [(0, zBox X z.gaps), (1, sRow A), (2, sBox X z.gaps cap 1)], 3⟩) (fun st => fx.length - slotN st 67) ⟨_, (weak_cut1 (by (first | ((simp only [envIn, tabIn, envLt, tabLt, AObj.lt, AV.lt, AV.ltL, ruW, ASt.get, aget, ASt.put, ↓reduceIte, reduceCtorEq, Nat.reduceLT, Nat.reduceEqDiff, Nat.reduceAdd, Nat.reduceLeDiff, eq_self, implies_true, List.length_map]) <;> (repeat' apply And.intro) <;> first | (rw [wrapK (by omega)]; done) | (simp; done) | omega) | fail))), 0, A, Nat.zero_le _, hInv, rfl⟩ ?_
    clear hInv
    rintro _ ⟨k, A, hk, hInv, rfl⟩
    by_cases hlt : k < fx.length
    · have d1 : decide (k < fx.length) = true := decide_eq_true hlt
      have hAl := hInv.len
      have hfk := hfxD k hlt
      have hpm := hfm2 k hlt
      have hAk := hInv.fix k (by omega)
      rw [hfk] at hAk
      have hbk := hscD k hlt
      rw [← hAk] at hbk
      have wF : IntKind.i64.wrap ((fx.length : Int) - 1) = (fx.length : Int) - 1 := wrap_in (by omega) (by omega)
      have w1 : IntKind.i64.wrap ((k : Int) + 1) = ((k + 1 : Nat) : Int) := wrapK (by omega)
      obtain ⟨p, hp⟩ : ∃ p, fx[k] = p := ⟨_, rfl⟩
      rw [hp] at hfk hpm hbk
      have hupto : uptoN z (k + 1) = if k + 1 = fx.length then z.cls.length - 1 else p := by
        unfold uptoN
        rw [if_neg (by omega), if_neg (by omega), hfxl, Nat.add_sub_cancel, hfk]
      have hup3 : ∀ A', SmpInv z sc cap A' p → k + 1 = fx.length → ∀ A2, UpP z.gaps p (max z.cls.length (p + 1)) A' A2 → SmpInv z sc cap A2 (z.cls.length - 1) := fun A' h h2 A2 hU => by
        rw [← hfk] at h hU
        exact h.up (by omega) hU hSB
      have hAp' : ∀ A', SmpInv z sc cap A' p → -4398046511104 ≤ A'.getD p 0 ∧ A'.getD p 0 ≤ 4398046511104 := fun A' h => by
        have := h.fix k (by omega)
        rw [hfk] at this
        rw [this]
        exact hscD k hlt
      rcases Nat.eq_zero_or_pos k with hk0 | hk0
      · subst hk0
        have b0 : (((0 : Nat) : Int) == 0) = true := rfl
        have hu0 : uptoN z 0 = 0 := by unfold uptoN; rw [if_neg (by omega), if_pos rfl]
        rw [hu0] at hInv
        (repeat' (first | simp (maxSteps := 5000000) (implicitDefEqProofs := false) only [ruA, ruB, aEv, aTake, aLoad, aField, aIndex, aLen, aBin, bin2, aUn, un1, aExtract, aConv, ASt.get, aget, ASt.put, aStore, aBox, aAppend, aBuildSlice, aMake, aBuild, aFill, oneParts, allC, aBinS, yv, aCells, oneC, oneCL, treeC, treeL, aLit, aDst, aSrc, appTab, Value.cells, Value.oneCell', envOf, aResL, aOne, ↓reduceIte, reduceCtorEq, forall_const, Nat.reduceLT, Nat.reduceEqDiff, Nat.reduceAdd, Nat.reduceMul, Nat.reduceSub, Nat.reduceLeDiff, Nat.reduceBEq, eq_self, implies_true, ne_eq, dref, dref1, dref2, aExecS, aStoreB, aTakes, aTakeE, aElder, aFrom, aFresh, isLoad, aBuildSlice1, frzs, frz1, ownIds, AV.frz, AV.frzL, frzEnv, AV.shift, AV.shiftL, aFieldV, aSliceW, aSliceO, aSlice, aSliceR, aSliceS, aBd, aMax, frzAVs, frzAV, frzTab, AObj.frz, aMM, aNilS, aMay, aNil, tyA_25, tyS_25, tyF_25_0, tyA_22, tyS_22, tyE_22, tyK_22, tyR_26, tyZ_2, tyB_41, tyE_23, tyK_23, tyK_3, tyA_3, tyS_3, tyF_41_2, tyA_26, tyS_26, tyE_26, tyA_2, tyS_2, tyF_41_3, tyA_4, tyS_4, tyA_37, tyS_37, tyZ_37, tyF_37_0, d1, b0, row_at, hlt, hp, List.length_map] | (with_reducible refine aIf_split (fun _ => ?_) (fun _ => ?_)) | (with_reducible refine aSel_split (fun _ => ?_) (fun _ => ?_)) | (with_reducible refine aGd_split (fun _ => ?_) (fun _ => ?_))))
        refine callI ?_
        refine down_I (b := 2) (a := 1) (x2 := 0) (x3 := 1000) (ts := [1, 2, 4, 10, 11, 14, 15, 65, 66, 67]) (env := [(1, eI (n : Int)), (2, sI c), (4, .op 2 0 0), (10, .op 0 0 0), (11, .sl 1 (fx.map fun n : Nat => [eI (n : Int)])), (14, eI ((0 : Nat) : Int)), (15, eI (p : Int)), (65, .sl 1 (fx.map fun n : Nat => [eI (n : Int)])), (66, eI (fx.length : Int)), (67, eI ((0 : Nat) : Int))]) (o2 := zBox X z.gaps) (o3 := none) (X := X) (g := z.gaps) (cap := cap) (A := A) p ⟨rfl, rfl, fun o e => by cases e; exact ⟨rfl, trivial, trivial, trivial⟩, fun o e => (by cases e), (by simp), rfl, ⟨trivial, trivial, (by show (2 : Nat) < 5; omega), (by show (0 : Nat) < 5; omega), trivial, trivial, trivial, trivial, trivial, trivial, trivial⟩⟩ (hsm A hAl) (by omega) hbk fun vs2 A' hD => ?_
        have hI2 : SmpInv z sc cap A' p := by
          have := hInv.down (by omega) (by rw [hfk]; exact hD) hSB
          rw [hfk] at this
          exact this
        by_cases hlast : 0 + 1 = fx.length
        · have b1 : (((0 : Nat) : Int) == (fx.length : Int) - 1) = true := by rw [beq_iff_eq]; omega
          rw [if_pos hlast] at hupto
          (repeat' (first | simp (maxSteps := 5000000) (implicitDefEqProofs := false) only [ruA, ruB, aEv, aTake, aLoad, aField, aIndex, aLen, aBin, bin2, aUn, un1, aExtract, aConv, ASt.get, aget, ASt.put, aStore, aBox, aAppend, aBuildSlice, aMake, aBuild, aFill, oneParts, allC, aBinS, yv, aCells, oneC, oneCL, treeC, treeL, aLit, aDst, aSrc, appTab, Value.cells, Value.oneCell', envOf, aResL, aOne, ↓reduceIte, reduceCtorEq, forall_const, Nat.reduceLT, Nat.reduceEqDiff, Nat.reduceAdd, Nat.reduceMul, Nat.reduceSub, Nat.reduceLeDiff, Nat.reduceBEq, eq_self, implies_true, ne_eq, dref, dref1, dref2, aExecS, aStoreB, aTakes, aTakeE, aElder, aFrom, aFresh, isLoad, aBuildSlice1, frzs, frz1, ownIds, AV.frz, AV.frzL, frzEnv, AV.shift, AV.shiftL, aFieldV, aSliceW, aSliceO, aSlice, aSliceR, aSliceS, aBd, aMax, frzAVs, frzAV, frzTab, AObj.frz, aMM, aNilS, aMay, aNil, tyA_25, tyS_25, tyF_25_0, tyA_22, tyS_22, tyE_22, tyK_22, tyR_26, tyZ_2, tyB_41, tyE_23, tyK_23, tyK_3, tyA_3, tyS_3, tyF_41_2, tyA_26, tyS_26, tyE_26, tyA_2, tyS_2, tyF_41_3, tyA_4, tyS_4, tyA_37, tyS_37, tyZ_37, tyF_37_0, smpSt, shiftT_nil, shiftT_some, shiftT_none, AObj.shift, shiftEnv, b1, wF, hXl, List.length_map] | (with_reducible refine aIf_split (fun _ => ?_) (fun _ => ?_)) | (with_reducible refine aSel_split (fun _ => ?_) (fun _ => ?_)) | (with_reducible refine aGd_split (fun _ => ?_) (fun _ => ?_)) | (with_reducible refine aDraw_quiet (by kernel_rfl) ?_) | (with_reducible refine callI ?_)))
          refine up_I (b := 3) (a := 4) (x2 := 5) (x3 := 1000) (ts := [1, 2, 4, 10, 11, 14, 15, 65, 66, 67]) (env := [(1, eI (n : Int)), (2, sI c), (4, .op 2 0 0), (10, .op 0 0 0), (11, .sl 1 (fx.map fun n : Nat => [eI (n : Int)])), (14, eI ((0 : Nat) : Int)), (15, eI (p : Int)), (65, .sl 1 (fx.map fun n : Nat => [eI (n : Int)])), (66, eI (fx.length : Int)), (67, eI ((0 : Nat) : Int))]) (o2 := zBox X z.gaps) (o3 := none) (X := X) (g := z.gaps) (cap := cap) (A := A') p z.cls.length ⟨rfl, rfl, fun o e => by cases e; exact ⟨rfl, trivial, trivial, trivial⟩, fun o e => (by cases e), (by simp), rfl, ⟨trivial, trivial, (by show (2 : Nat) < 5; omega), (by show (0 : Nat) < 5; omega), trivial, trivial, trivial, trivial, trivial, trivial, trivial⟩⟩ (hsm A' hI2.len) (by omega) (by have := hI2.len; omega) (hAp' A' hI2) fun vs3 A2 hU => ?_
          (repeat' (first | simp (maxSteps := 5000000) (implicitDefEqProofs := false) only [ruA, ruB, aEv, aTake, aLoad, aField, aIndex, aLen, aBin, bin2, aUn, un1, aExtract, aConv, ASt.get, aget, ASt.put, aStore, aBox, aAppend, aBuildSlice, aMake, aBuild, aFill, oneParts, allC, aBinS, yv, aCells, oneC, oneCL, treeC, treeL, aLit, aDst, aSrc, appTab, Value.cells, Value.oneCell', envOf, aResL, aOne, ↓reduceIte, reduceCtorEq, forall_const, Nat.reduceLT, Nat.reduceEqDiff, Nat.reduceAdd, Nat.reduceMul, Nat.reduceSub, Nat.reduceLeDiff, Nat.reduceBEq, eq_self, implies_true, ne_eq, dref, dref1, dref2, aExecS, aStoreB, aTakes, aTakeE, aElder, aFrom, aFresh, isLoad, aBuildSlice1, frzs, frz1, ownIds, AV.frz, AV.frzL, frzEnv, AV.shift, AV.shiftL, aFieldV, aSliceW, aSliceO, aSlice, aSliceR, aSliceS, aBd, aMax, frzAVs, frzAV, frzTab, AObj.frz, aMM, aNilS, aMay, aNil, tyA_25, tyS_25, tyF_25_0, tyA_22, tyS_22, tyE_22, tyK_22, tyR_26, tyZ_2, tyB_41, tyE_23, tyK_23, tyK_3, tyA_3, tyS_3, tyF_41_2, tyA_26, tyS_26, tyE_26, tyA_2, tyS_2, tyF_41_3, tyA_4, tyS_4, tyA_37, tyS_37, tyZ_37, tyF_37_0, smpSt, shiftT_nil, shiftT_some, shiftT_none, AObj.shift, shiftEnv, w1] | (with_reducible refine aIf_split (fun _ => ?_) (fun _ => ?_)) | (with_reducible refine aSel_split (fun _ => ?_) (fun _ => ?_)) | (with_reducible refine aGd_split (fun _ => ?_) (fun _ => ?_)) | (with_reducible refine aDraw_quiet (by kernel_rfl) ?_)))
          exact roundI (weak_ren1 [10, 9, 8] ⟨(by decide), (by (first | ((simp only [envInR, tabInR, envLt, tabLt, AObj.lt, AV.lt, AV.ltL, AV.ren, AV.renL, AObj.ren, List.getD_cons_zero, List.getD_cons_succ, List.length_cons, List.length_nil, ruW, ASt.get, aget, ASt.put, ↓reduceIte, reduceCtorEq, Nat.reduceLT, Nat.reduceEqDiff, Nat.reduceAdd, Nat.reduceLeDiff, eq_self, implies_true]) <;> (repeat' apply And.intro) <;> first | (rw [wrapK (by omega)]; done) | (simp; done) | omega) | fail))⟩) ⟨0 + 1, A2, by omega, by rw [hupto]; exact hup3 A' hI2 hlast A2 hU, rfl⟩ (by simp only [slotN, ruW, ASt.get, aget, ASt.put, ↓reduceIte, reduceCtorEq, Nat.reduceLT, Nat.reduceEqDiff, Nat.reduceAdd, Nat.reduceLeDiff, eq_self, implies_true]; omega)
        · have b1 : (((0 : Nat) : Int) == (fx.length : Int) - 1) = false := by rw [beq_eq_false_iff_ne]; omega
          rw [if_neg hlast] at hupto
          (repeat' (first | simp (maxSteps := 5000000) (implicitDefEqProofs := false) only [ruA, ruB, aEv, aTake, aLoad, aField, aIndex, aLen, aBin, bin2, aUn, un1, aExtract, aConv, ASt.get, aget, ASt.put, aStore, aBox, aAppend, aBuildSlice, aMake, aBuild, aFill, oneParts, allC, aBinS, yv, aCells, oneC, oneCL, treeC, treeL, aLit, aDst, aSrc, appTab, Value.cells, Value.oneCell', envOf, aResL, aOne, ↓reduceIte, reduceCtorEq, forall_const, Nat.reduceLT, Nat.reduceEqDiff, Nat.reduceAdd, Nat.reduceMul, Nat.reduceSub, Nat.reduceLeDiff, Nat.reduceBEq, eq_self, implies_true, ne_eq, dref, dref1, dref2, aExecS, aStoreB, aTakes, aTakeE, aElder, aFrom, aFresh, isLoad, aBuildSlice1, frzs, frz1, ownIds, AV.frz, AV.frzL, frzEnv, AV.shift, AV.shiftL, aFieldV, aSliceW, aSliceO, aSlice, aSliceR, aSliceS, aBd, aMax, frzAVs, frzAV, frzTab, AObj.frz, aMM, aNilS, aMay, aNil, tyA_25, tyS_25, tyF_25_0, tyA_22, tyS_22, tyE_22, tyK_22, tyR_26, tyZ_2, tyB_41, tyE_23, tyK_23, tyK_3, tyA_3, tyS_3, tyF_41_2, tyA_26, tyS_26, tyE_26, tyA_2, tyS_2, tyF_41_3, tyA_4, tyS_4, tyA_37, tyS_37, tyZ_37, tyF_37_0, smpSt, shiftT_nil, shiftT_some, shiftT_none, AObj.shift, shiftEnv, b1, wF, w1, List.length_map] | (with_reducible refine aIf_split (fun _ => ?_) (fun _ => ?_)) | (with_reducible refine aSel_split (fun _ => ?_) (fun _ => ?_)) | (with_reducible refine aGd_split (fun _ => ?_) (fun _ => ?_)) | (with_reducible refine aDraw_quiet (by kernel_rfl) ?_)))
          exact roundI (weak_ren1 [5, 4, 3] ⟨(by decide), (by (first | ((simp only [envInR, tabInR, envLt, tabLt, AObj.lt, AV.lt, AV.ltL, AV.ren, AV.renL, AObj.ren, List.getD_cons_zero, List.getD_cons_succ, List.length_cons, List.length_nil, ruW, ASt.get, aget, ASt.put, ↓reduceIte, reduceCtorEq, Nat.reduceLT, Nat.reduceEqDiff, Nat.reduceAdd, Nat.reduceLeDiff, eq_self, implies_true]) <;> (repeat' apply And.intro) <;> first | (rw [wrapK (by omega)]; done) | (simp; done) | omega) | fail))⟩) ⟨0 + 1, A', by omega, by rw [hupto]; exact hI2, rfl⟩ (by simp only [slotN, ruW, ASt.get, aget, ASt.put, ↓reduceIte, reduceCtorEq, Nat.reduceLT, Nat.reduceEqDiff, Nat.reduceAdd, Nat.reduceLeDiff, eq_self, implies_true]; omega)
      · obtain ⟨j, rfl⟩ : ∃ j, k = j + 1 := ⟨k - 1, by omega⟩
        have hltj : j < fx.length := by omega
        have b0 : (((j + 1 : Nat) : Int) == 0) = false := by rw [beq_eq_false_iff_ne]; omega
        have w2 : IntKind.i64.wrap (((j + 1 : Nat) : Int) - 1) = (j : Int) := by rw [wrap_in (by omega) (by omega)]; omega
        have hfj := hfxD j hltj
        have hpj := hup2 j (j + 1) hltj hlt (by omega)
        obtain ⟨o, ho⟩ : ∃ o, fx[j] = o := ⟨_, rfl⟩
        rw [ho] at hfj hpj
        rw [hp] at hpj
        have huj : uptoN z (j + 1) = o := by
          unfold uptoN
          rw [if_neg (by omega), if_neg (by omega), if_neg (by omega), Nat.add_sub_cancel, hfj]
        rw [huj] at hInv
        have hAj := hInv.fix j (by omega)
        rw [hfj] at hAj
        have hbj := hscD j hltj
        rw [← hAj] at hbj
        have hscl2 : sc.getD j 0 < sc.getD (j + 1) 0 := by
          rw [gD_at (by omega : j < sc.length), gD_at (by omega : j + 1 < sc.length)]
          exact List.pairwise_iff_getElem.1 hsc j (j + 1) (by omega) (by omega) (by omega)
        have hRj := hR j (by omega)
        (repeat' (first | simp (maxSteps := 5000000) (implicitDefEqProofs := false) only [ruA, ruB, aEv, aTake, aLoad, aField, aIndex, aLen, aBin, bin2, aUn, un1, aExtract, aConv, ASt.get, aget, ASt.put, aStore, aBox, aAppend, aBuildSlice, aMake, aBuild, aFill, oneParts, allC, aBinS, yv, aCells, oneC, oneCL, treeC, treeL, aLit, aDst, aSrc, appTab, Value.cells, Value.oneCell', envOf, aResL, aOne, ↓reduceIte, reduceCtorEq, forall_const, Nat.reduceLT, Nat.reduceEqDiff, Nat.reduceAdd, Nat.reduceMul, Nat.reduceSub, Nat.reduceLeDiff, Nat.reduceBEq, eq_self, implies_true, ne_eq, dref, dref1, dref2, aExecS, aStoreB, aTakes, aTakeE, aElder, aFrom, aFresh, isLoad, aBuildSlice1, frzs, frz1, ownIds, AV.frz, AV.frzL, frzEnv, AV.shift, AV.shiftL, aFieldV, aSliceW, aSliceO, aSlice, aSliceR, aSliceS, aBd, aMax, frzAVs, frzAV, frzTab, AObj.frz, aMM, aNilS, aMay, aNil, tyA_25, tyS_25, tyF_25_0, tyA_22, tyS_22, tyE_22, tyK_22, tyR_26, tyZ_2, tyB_41, tyE_23, tyK_23, tyK_3, tyA_3, tyS_3, tyF_41_2, tyA_26, tyS_26, tyE_26, tyA_2, tyS_2, tyF_41_3, tyA_4, tyS_4, tyA_37, tyS_37, tyZ_37, tyF_37_0, d1, b0, row_at, hlt, hp, List.length_map] | (with_reducible refine aIf_split (fun _ => ?_) (fun _ => ?_)) | (with_reducible refine aSel_split (fun _ => ?_) (fun _ => ?_)) | (with_reducible refine aGd_split (fun _ => ?_) (fun _ => ?_))))
        (repeat' (first | simp (maxSteps := 5000000) (implicitDefEqProofs := false) only [ruA, ruB, aEv, aTake, aLoad, aField, aIndex, aLen, aBin, bin2, aUn, un1, aExtract, aConv, ASt.get, aget, ASt.put, aStore, aBox, aAppend, aBuildSlice, aMake, aBuild, aFill, oneParts, allC, aBinS, yv, aCells, oneC, oneCL, treeC, treeL, aLit, aDst, aSrc, appTab, Value.cells, Value.oneCell', envOf, aResL, aOne, ↓reduceIte, reduceCtorEq, forall_const, Nat.reduceLT, Nat.reduceEqDiff, Nat.reduceAdd, Nat.reduceMul, Nat.reduceSub, Nat.reduceLeDiff, Nat.reduceBEq, eq_self, implies_true, ne_eq, dref, dref1, dref2, aExecS, aStoreB, aTakes, aTakeE, aElder, aFrom, aFresh, isLoad, aBuildSlice1, frzs, frz1, ownIds, AV.frz, AV.frzL, frzEnv, AV.shift, AV.shiftL, aFieldV, aSliceW, aSliceO, aSlice, aSliceR, aSliceS, aBd, aMax, frzAVs, frzAV, frzTab, AObj.frz, aMM, aNilS, aMay, aNil, tyA_25, tyS_25, tyF_25_0, tyA_22, tyS_22, tyE_22, tyK_22, tyR_26, tyZ_2, tyB_41, tyE_23, tyK_23, tyK_3, tyA_3, tyS_3, tyF_41_2, tyA_26, tyS_26, tyE_26, tyA_2, tyS_2, tyF_41_3, tyA_4, tyS_4, tyA_37, tyS_37, tyZ_37, tyF_37_0, row_at, hltj, ho, w2, Int.natCast_nonneg, Int.ofNat_lt, List.length_map] | (with_reducible refine aIf_split (fun _ => ?_) (fun _ => ?_)) | (with_reducible refine aSel_split (fun _ => ?_) (fun _ => ?_)) | (with_reducible refine aGd_split (fun _ => ?_) (fun _ => ?_)) | (with_reducible refine aDraw_quiet (by kernel_rfl) ?_) | (with_reducible refine callI ?_)))
        refine between_I (b := 2) (a := 1) (x2 := 0) (x3 := 1000) (ts := [1, 2, 4, 10, 11, 14, 15, 65, 66, 67]) (env := [(1, eI (n : Int)), (2, sI c), (4, .op 2 0 0), (10, .op 0 0 0), (11, .sl 1 (fx.map fun n : Nat => [eI (n : Int)])), (14, eI ((j + 1 : Nat) : Int)), (15, eI (p : Int)), (65, .sl 1 (fx.map fun n : Nat => [eI (n : Int)])), (66, eI (fx.length : Int)), (67, eI ((j + 1 : Nat) : Int))]) (X := X) (g := z.gaps) (cap := cap) (A := A) o p ⟨rfl, rfl, fun o e => by cases e; exact ⟨rfl, trivial, trivial, trivial⟩, fun o e => (by cases e), (by simp), rfl, ⟨trivial, trivial, (by show (2 : Nat) < 5; omega), (by show (0 : Nat) < 5; omega), trivial, trivial, trivial, trivial, trivial, trivial, trivial⟩⟩ ⟨trivial, trivial, (by show (2 : Nat) < 3; omega), (by show (0 : Nat) < 3; omega), trivial, trivial, trivial, trivial, trivial, trivial, trivial⟩ (hsm A hAl) hpj (by omega) hbj hbk fun vs2 w A1 A' hW hU hD => ?_
        have hI2 : SmpInv z sc cap A' p := by
          have h5 : SmpInv z sc cap A ((fixL z).getD j 0) := by rw [hfj]; exact hInv
          have := h5.between (A' := A') (A1 := A1) (w := w) (by omega) (by omega) (fun i => (hgg i).1) (by rw [hfj, hfk]; exact hW) (by rw [hfj]; exact hU) (by rw [hfk]; exact hD) hscl2 hRj hSB
          rw [hfk] at this
          exact this
        by_cases hlast : j + 1 + 1 = fx.length
        · have b1 : (((j + 1 : Nat) : Int) == (fx.length : Int) - 1) = true := by rw [beq_iff_eq]; omega
          rw [if_pos hlast] at hupto
          (repeat' (first | simp (maxSteps := 5000000) (implicitDefEqProofs := false) only [ruA, ruB, aEv, aTake, aLoad, aField, aIndex, aLen, aBin, bin2, aUn, un1, aExtract, aConv, ASt.get, aget, ASt.put, aStore, aBox, aAppend, aBuildSlice, aMake, aBuild, aFill, oneParts, allC, aBinS, yv, aCells, oneC, oneCL, treeC, treeL, aLit, aDst, aSrc, appTab, Value.cells, Value.oneCell', envOf, aResL, aOne, ↓reduceIte, reduceCtorEq, forall_const, Nat.reduceLT, Nat.reduceEqDiff, Nat.reduceAdd, Nat.reduceMul, Nat.reduceSub, Nat.reduceLeDiff, Nat.reduceBEq, eq_self, implies_true, ne_eq, dref, dref1, dref2, aExecS, aStoreB, aTakes, aTakeE, aElder, aFrom, aFresh, isLoad, aBuildSlice1, frzs, frz1, ownIds, AV.frz, AV.frzL, frzEnv, AV.shift, AV.shiftL, aFieldV, aSliceW, aSliceO, aSlice, aSliceR, aSliceS, aBd, aMax, frzAVs, frzAV, frzTab, AObj.frz, aMM, aNilS, aMay, aNil, tyA_25, tyS_25, tyF_25_0, tyA_22, tyS_22, tyE_22, tyK_22, tyR_26, tyZ_2, tyB_41, tyE_23, tyK_23, tyK_3, tyA_3, tyS_3, tyF_41_2, tyA_26, tyS_26, tyE_26, tyA_2, tyS_2, tyF_41_3, tyA_4, tyS_4, tyA_37, tyS_37, tyZ_37, tyF_37_0, smpSt, shiftT_nil, shiftT_some, shiftT_none, AObj.shift, shiftEnv, b1, wF, hXl, List.length_map] | (with_reducible refine aIf_split (fun _ => ?_) (fun _ => ?_)) | (with_reducible refine aSel_split (fun _ => ?_) (fun _ => ?_)) | (with_reducible refine aGd_split (fun _ => ?_) (fun _ => ?_)) | (with_reducible refine aDraw_quiet (by kernel_rfl) ?_) | (with_reducible refine callI ?_)))
          refine up_I (b := 3) (a := 4) (x2 := 5) (x3 := 1000) (ts := [1, 2, 4, 10, 11, 14, 15, 65, 66, 67]) (env := [(1, eI (n : Int)), (2, sI c), (4, .op 2 0 0), (10, .op 0 0 0), (11, .sl 1 (fx.map fun n : Nat => [eI (n : Int)])), (14, eI ((j + 1 : Nat) : Int)), (15, eI (p : Int)), (65, .sl 1 (fx.map fun n : Nat => [eI (n : Int)])), (66, eI (fx.length : Int)), (67, eI ((j + 1 : Nat) : Int))]) (o2 := zBox X z.gaps) (o3 := none) (X := X) (g := z.gaps) (cap := cap) (A := A') p z.cls.length ⟨rfl, rfl, fun o e => by cases e; exact ⟨rfl, trivial, trivial, trivial⟩, fun o e => (by cases e), (by simp), rfl, ⟨trivial, trivial, (by show (2 : Nat) < 5; omega), (by show (0 : Nat) < 5; omega), trivial, trivial, trivial, trivial, trivial, trivial, trivial⟩⟩ (hsm A' hI2.len) (by omega) (by have := hI2.len; omega) (hAp' A' hI2) fun vs3 A2 hU2 => ?_
          (repeat' (first | simp (maxSteps := 5000000) (implicitDefEqProofs := false) only [ruA, ruB, aEv, aTake, aLoad, aField, aIndex, aLen, aBin, bin2, aUn, un1, aExtract, aConv, ASt.get, aget, ASt.put, aStore, aBox, aAppend, aBuildSlice, aMake, aBuild, aFill, oneParts, allC, aBinS, yv, aCells, oneC, oneCL, treeC, treeL, aLit, aDst, aSrc, appTab, Value.cells, Value.oneCell', envOf, aResL, aOne, ↓reduceIte, reduceCtorEq, forall_const, Nat.reduceLT, Nat.reduceEqDiff, Nat.reduceAdd, Nat.reduceMul, Nat.reduceSub, Nat.reduceLeDiff, Nat.reduceBEq, eq_self, implies_true, ne_eq, dref, dref1, dref2, aExecS, aStoreB, aTakes, aTakeE, aElder, aFrom, aFresh, isLoad, aBuildSlice1, frzs, frz1, ownIds, AV.frz, AV.frzL, frzEnv, AV.shift, AV.shiftL, aFieldV, aSliceW, aSliceO, aSlice, aSliceR, aSliceS, aBd, aMax, frzAVs, frzAV, frzTab, AObj.frz, aMM, aNilS, aMay, aNil, tyA_25, tyS_25, tyF_25_0, tyA_22, tyS_22, tyE_22, tyK_22, tyR_26, tyZ_2, tyB_41, tyE_23, tyK_23, tyK_3, tyA_3, tyS_3, tyF_41_2, tyA_26, tyS_26, tyE_26, tyA_2, tyS_2, tyF_41_3, tyA_4, tyS_4, tyA_37, tyS_37, tyZ_37, tyF_37_0, smpSt, shiftT_nil, shiftT_some, shiftT_none, AObj.shift, shiftEnv, w1] | (with_reducible refine aIf_split (fun _ => ?_) (fun _ => ?_)) | (with_reducible refine aSel_split (fun _ => ?_) (fun _ => ?_)) | (with_reducible refine aGd_split (fun _ => ?_) (fun _ => ?_)) | (with_reducible refine aDraw_quiet (by kernel_rfl) ?_)))
          exact roundI (weak_ren1 [10, 9, 8] ⟨(by decide), (by (first | ((simp only [envInR, tabInR, envLt, tabLt, AObj.lt, AV.lt, AV.ltL, AV.ren, AV.renL, AObj.ren, List.getD_cons_zero, List.getD_cons_succ, List.length_cons, List.length_nil, ruW, ASt.get, aget, ASt.put, ↓reduceIte, reduceCtorEq, Nat.reduceLT, Nat.reduceEqDiff, Nat.reduceAdd, Nat.reduceLeDiff, eq_self, implies_true]) <;> (repeat' apply And.intro) <;> first | (rw [wrapK (by omega)]; done) | (simp; done) | omega) | fail))⟩) ⟨j + 1 + 1, A2, by omega, by rw [hupto]; exact hup3 A' hI2 hlast A2 hU2, rfl⟩ (by simp only [slotN, ruW, ASt.get, aget, ASt.put, ↓reduceIte, reduceCtorEq, Nat.reduceLT, Nat.reduceEqDiff, Nat.reduceAdd, Nat.reduceLeDiff, eq_self, implies_true]; omega)
        · have b1 : (((j + 1 : Nat) : Int) == (fx.length : Int) - 1) = false := by rw [beq_eq_false_iff_ne]; omega
          rw [if_neg hlast] at hupto
          (repeat' (first | simp (maxSteps := 5000000) (implicitDefEqProofs := false) only [ruA, ruB, aEv, aTake, aLoad, aField, aIndex, aLen, aBin, bin2, aUn, un1, aExtract, aConv, ASt.get, aget, ASt.put, aStore, aBox, aAppend, aBuildSlice, aMake, aBuild, aFill, oneParts, allC, aBinS, yv, aCells, oneC, oneCL, treeC, treeL, aLit, aDst, aSrc, appTab, Value.cells, Value.oneCell', envOf, aResL, aOne, ↓reduceIte, reduceCtorEq, forall_const, Nat.reduceLT, Nat.reduceEqDiff, Nat.reduceAdd, Nat.reduceMul, Nat.reduceSub, Nat.reduceLeDiff, Nat.reduceBEq, eq_self, implies_true, ne_eq, dref, dref1, dref2, aExecS, aStoreB, aTakes, aTakeE, aElder, aFrom, aFresh, isLoad, aBuildSlice1, frzs, frz1, ownIds, AV.frz, AV.frzL, frzEnv, AV.shift, AV.shiftL, aFieldV, aSliceW, aSliceO, aSlice, aSliceR, aSliceS, aBd, aMax, frzAVs, frzAV, frzTab, AObj.frz, aMM, aNilS, aMay, aNil, tyA_25, tyS_25, tyF_25_0, tyA_22, tyS_22, tyE_22, tyK_22, tyR_26, tyZ_2, tyB_41, tyE_23, tyK_23, tyK_3, tyA_3, tyS_3, tyF_41_2, tyA_26, tyS_26, tyE_26, tyA_2, tyS_2, tyF_41_3, tyA_4, tyS_4, tyA_37, tyS_37, tyZ_37, tyF_37_0, smpSt, shiftT_nil, shiftT_some, shiftT_none, AObj.shift, shiftEnv, b1, wF, w1, List.length_map] | (with_reducible refine aIf_split (fun _ => ?_) (fun _ => ?_)) | (with_reducible refine aSel_split (fun _ => ?_) (fun _ => ?_)) | (with_reducible refine aGd_split (fun _ => ?_) (fun _ => ?_)) | (with_reducible refine aDraw_quiet (by kernel_rfl) ?_)))
          exact roundI (weak_ren1 [5, 4, 3] ⟨(by decide), (by (first | ((simp only [envInR, tabInR, envLt, tabLt, AObj.lt, AV.lt, AV.ltL, AV.ren, AV.renL, AObj.ren, List.getD_cons_zero, List.getD_cons_succ, List.length_cons, List.length_nil, ruW, ASt.get, aget, ASt.put, ↓reduceIte, reduceCtorEq, Nat.reduceLT, Nat.reduceEqDiff, Nat.reduceAdd, Nat.reduceLeDiff, eq_self, implies_true]) <;> (repeat' apply And.intro) <;> first | (rw [wrapK (by omega)]; done) | (simp; done) | omega) | fail))⟩) ⟨j + 1 + 1, A', by omega, by rw [hupto]; exact hI2, rfl⟩ (by simp only [slotN, ruW, ASt.get, aget, ASt.put, ↓reduceIte, reduceCtorEq, Nat.reduceLT, Nat.reduceEqDiff, Nat.reduceAdd, Nat.reduceLeDiff, eq_self, implies_true]; omega)
    · obtain rfl : k = fx.length := by omega
      (repeat' (first | simp (maxSteps := 5000000) (implicitDefEqProofs := false) only [ruA, ruB, aEv, aTake, aLoad, aField, aIndex, aLen, aBin, bin2, aUn, un1, aExtract, aConv, ASt.get, aget, ASt.put, aStore, aBox, aAppend, aBuildSlice, aMake, aBuild, aFill, oneParts, allC, aBinS, yv, aCells, oneC, oneCL, treeC, treeL, aLit, aDst, aSrc, appTab, Value.cells, Value.oneCell', envOf, aResL, aOne, ↓reduceIte, reduceCtorEq, forall_const, Nat.reduceLT, Nat.reduceEqDiff, Nat.reduceAdd, Nat.reduceMul, Nat.reduceSub, Nat.reduceLeDiff, Nat.reduceBEq, eq_self, implies_true, ne_eq, dref, dref1, dref2, aExecS, aStoreB, aTakes, aTakeE, aElder, aFrom, aFresh, isLoad, aBuildSlice1, frzs, frz1, ownIds, AV.frz, AV.frzL, frzEnv, AV.shift, AV.shiftL, aFieldV, aSliceW, aSliceO, aSlice, aSliceR, aSliceS, aBd, aMax, frzAVs, frzAV, frzTab, AObj.frz, aMM, aNilS, aMay, aNil, tyA_25, tyS_25, tyF_25_0, tyA_22, tyS_22, tyE_22, tyK_22, tyR_26, tyZ_2, tyB_41, tyE_23, tyK_23, tyK_3, tyA_3, tyS_3, tyF_41_2, tyA_26, tyS_26, tyE_26, tyA_2, tyS_2, tyF_41_3, tyA_4, tyS_4, tyA_37, tyS_37, tyZ_37, tyF_37_0, hlt] | (with_reducible refine aIf_split (fun _ => ?_) (fun _ => ?_)) | (with_reducible refine aSel_split (fun _ => ?_) (fun _ => ?_)) | (with_reducible refine aGd_split (fun _ => ?_) (fun _ => ?_))))
      refine aTo_mk (weak_cut1 (by (first | ((simp only [envIn, tabIn, envLt, tabLt, AObj.lt, AV.lt, AV.ltL, ruW, ASt.get, aget, ASt.put, ↓reduceIte, reduceCtorEq, Nat.reduceLT, Nat.reduceEqDiff, Nat.reduceAdd, Nat.reduceLeDiff, eq_self, implies_true]) <;> (repeat' apply And.intro) <;> first | (rw [wrapK (by omega)]; done) | (simp; done) | omega) | fail))) ⟨A, ?_, rfl⟩
      unfold uptoN at hInv
      split at hInv
      · exact hInv
      · rw [if_neg (by omega), if_pos (by omega)] at hInv
        exact hInv
  clear hInv
  rintro _ ⟨A, hInv, rfl⟩
  have hAl := hInv.len
  have hfin := hfin A hInv
  have hbd := hInv.bd
  clear hX2 hS hCap hInv hscb hsm hscD
  have hrepn : List.replicate n [eI 0] = (List.replicate n (0 : Int)).map fun n => [eI n] := by simp
  have hXat : ∀ k (h : k < z.cls.length), X[k]?.getD [] = eCls z.cls[k] := fun k h => by
    subst hXX
    exact row_at h
  have hXlt : ∀ k, k < z.cls.length → k < X.length := fun k h => by omega
  refine sc_cut (fun st => st = ⟨134, [(1, eI (n : Int)), (4, .op 0 0 0), (10, .op 2 0 0)], [(0, zBox X z.gaps), (1, sRow A), (2, sBox X z.gaps cap 1)], 3⟩) (sc_of mixedT ?_) ?_
  · (repeat' (first | simp (maxSteps := 5000000) (implicitDefEqProofs := false) only [ruA, ruB, aEv, aTake, aLoad, aField, aIndex, aLen, aBin, bin2, aUn, un1, aExtract, aConv, ASt.get, aget, ASt.put, aStore, aBox, aAppend, aBuildSlice, aMake, aBuild, aFill, oneParts, allC, aBinS, yv, aCells, oneC, oneCL, treeC, treeL, aLit, aDst, aSrc, appTab, Value.cells, Value.oneCell', envOf, aResL, aOne, ↓reduceIte, reduceCtorEq, forall_const, Nat.reduceLT, Nat.reduceEqDiff, Nat.reduceAdd, Nat.reduceMul, Nat.reduceSub, Nat.reduceLeDiff, Nat.reduceBEq, eq_self, implies_true, ne_eq, dref, dref1, dref2, aExecS, aStoreB, aTakes, aTakeE, aElder, aFrom, aFresh, isLoad, aBuildSlice1, frzs, frz1, ownIds, AV.frz, AV.frzL, frzEnv, AV.shift, AV.shiftL, aFieldV, aSliceW, aSliceO, aSlice, aSliceR, aSliceS, aBd, aMax, frzAVs, frzAV, frzTab, AObj.frz, aMM, aNilS, aMay, aNil, tyA_25, tyS_25, tyF_25_0, tyA_22, tyS_22, tyE_22, tyK_22, tyR_26, tyZ_2, tyB_41, tyE_23, tyK_23, tyK_3, tyA_3, tyS_3, tyF_41_2, tyA_26, tyS_26, tyE_26, tyA_2, tyS_2, tyF_41_3, tyA_4, tyS_4, tyA_37, tyS_37, tyZ_37, tyF_37_0] | (with_reducible refine aIf_split (fun _ => ?_) (fun _ => ?_)) | (with_reducible refine aSel_split (fun _ => ?_) (fun _ => ?_)) | (with_reducible refine aGd_split (fun _ => ?_) (fun _ => ?_)) | (with_reducible refine aDraw_quiet (by kernel_rfl) ?_)))
    exact aTo_mk (weak_cut1 (by (first | ((simp only [envIn, tabIn, envLt, tabLt, AObj.lt, AV.lt, AV.ltL, ruW, ASt.get, aget, ASt.put, ↓reduceIte, reduceCtorEq, Nat.reduceLT, Nat.reduceEqDiff, Nat.reduceAdd, Nat.reduceLeDiff, eq_self, implies_true]) <;> (repeat' apply And.intro) <;> first | (rw [wrapK (by omega)]; done) | (simp; done) | omega) | fail))) rfl
  rintro _ rfl
  refine sc_cut (fun st => st = ⟨134, [(4, .op 0 0 0), (10, .op 2 0 0), (16, .osl 3)], [(0, zBox X z.gaps), (1, sRow A), (2, sBox X z.gaps cap 1), (3, sRow (List.replicate n 0))], 4⟩) (sc_of mixedT ?_) ?_
  · (repeat' (first | simp (maxSteps := 5000000) (implicitDefEqProofs := false) only [ruA, ruB, aEv, aTake, aLoad, aField, aIndex, aLen, aBin, bin2, aUn, un1, aExtract, aConv, ASt.get, aget, ASt.put, aStore, aBox, aAppend, aBuildSlice, aMake, aBuild, aFill, oneParts, allC, aBinS, yv, aCells, oneC, oneCL, treeC, treeL, aLit, aDst, aSrc, appTab, Value.cells, Value.oneCell', envOf, aResL, aOne, ↓reduceIte, reduceCtorEq, forall_const, Nat.reduceLT, Nat.reduceEqDiff, Nat.reduceAdd, Nat.reduceMul, Nat.reduceSub, Nat.reduceLeDiff, Nat.reduceBEq, eq_self, implies_true, ne_eq, dref, dref1, dref2, aExecS, aStoreB, aTakes, aTakeE, aElder, aFrom, aFresh, isLoad, aBuildSlice1, frzs, frz1, ownIds, AV.frz, AV.frzL, frzEnv, AV.shift, AV.shiftL, aFieldV, aSliceW, aSliceO, aSlice, aSliceR, aSliceS, aBd, aMax, frzAVs, frzAV, frzTab, AObj.frz, aMM, aNilS, aMay, aNil, tyA_25, tyS_25, tyF_25_0, tyA_22, tyS_22, tyE_22, tyK_22, tyR_26, tyZ_2, tyB_41, tyE_23, tyK_23, tyK_3, tyA_3, tyS_3, tyF_41_2, tyA_26, tyS_26, tyE_26, tyA_2, tyS_2, tyF_41_3, tyA_4, tyS_4, tyA_37, tyS_37, tyZ_37, tyF_37_0, hrepn] | (with_reducible refine aIf_split (fun _ => ?_) (fun _ => ?_)) | (with_reducible refine aSel_split (fun _ => ?_) (fun _ => ?_)) | (with_reducible refine aGd_split (fun _ => ?_) (fun _ => ?_)) | (with_reducible refine aDraw_quiet (by kernel_rfl) ?_) | (with_reducible apply And.intro)))
    all_goals first
      | omega
      | exact aTo_mk (weak_cut1 (by (first | ((simp only [envIn, tabIn, envLt, tabLt, AObj.lt, AV.lt, AV.ltL, ruW, ASt.get, aget, ASt.put, ↓reduceIte, reduceCtorEq, Nat.reduceLT, Nat.reduceEqDiff, Nat.reduceAdd, Nat.reduceLeDiff, eq_self, implies_true]) <;> (repeat' apply And.intro) <;> first | (rw [wrapK (by omega)]; done) | (simp; done) | omega) | fail))) rfl
      | trace_state
  rintro _ rfl
  refine sc_of mixedT ?_
  (repeat' (first | simp (maxSteps := 5000000) (implicitDefEqProofs := false) only [ruA, ruB, aEv, aTake, aLoad, aField, aIndex, aLen, aBin, bin2, aUn, un1, aExtract, aConv, ASt.get, aget, ASt.put, aStore, aBox, aAppend, aBuildSlice, aMake, aBuild, aFill, oneParts, allC, aBinS, yv, aCells, oneC, oneCL, treeC, treeL, aLit, aDst, aSrc, appTab, Value.cells, Value.oneCell', envOf, aResL, aOne, ↓reduceIte, reduceCtorEq, forall_const, Nat.reduceLT, Nat.reduceEqDiff, Nat.reduceAdd, Nat.reduceMul, Nat.reduceSub, Nat.reduceLeDiff, Nat.reduceBEq, eq_self, implies_true, ne_eq, dref, dref1, dref2, aExecS, aStoreB, aTakes, aTakeE, aElder, aFrom, aFresh, isLoad, aBuildSlice1, frzs, frz1, ownIds, AV.frz, AV.frzL, frzEnv, AV.shift, AV.shiftL, aFieldV, aSliceW, aSliceO, aSlice, aSliceR, aSliceS, aBd, aMax, frzAVs, frzAV, frzTab, AObj.frz, aMM, aNilS, aMay, aNil, tyA_25, tyS_25, tyF_25_0, tyA_22, tyS_22, tyE_22, tyK_22, tyR_26, tyZ_2, tyB_41, tyE_23, tyK_23, tyK_3, tyA_3, tyS_3, tyF_41_2, tyA_26, tyS_26, tyE_26, tyA_2, tyS_2, tyF_41_3, tyA_4, tyS_4, tyA_37, tyS_37, tyZ_37, tyF_37_0] | (with_reducible refine aIf_split (fun _ => ?_) (fun _ => ?_)) | (with_reducible refine aSel_split (fun _ => ?_) (fun _ => ?_)) | (with_reducible refine aGd_split (fun _ => ?_) (fun _ => ?_))))
  refine aLoop_of (fun st => ∃ (k : Nat) (v : List Int), k ≤ z.cls.length ∧ v.length = n ∧ (∀ i (h : i < z.cls.length), i < k → ∀ q, (aN z.cls[i]).testBit q = true → v.getD q 0 = A.getD i 0) ∧ st = ⟨134, [(4, .op 0 0 0), (10, .op 2 0 0), (16, .osl 3), (106, .sl 2 X), (107, eI (z.cls.length : Int)), (108, eI (k : Int))], [(0, zBox X z.gaps), (1, sRow A), (2, sBox X z.gaps cap 1), (3, sRow v)], 4⟩) (fun st => z.cls.length - slotN st 108) ⟨_, (weak_cut1 (by (first | ((simp only [envIn, tabIn, envLt, tabLt, AObj.lt, AV.lt, AV.ltL, ruW, ASt.get, aget, ASt.put, ↓reduceIte, reduceCtorEq, Nat.reduceLT, Nat.reduceEqDiff, Nat.reduceAdd, Nat.reduceLeDiff, eq_self, implies_true, hXl]) <;> (repeat' apply And.intro) <;> first | (rw [wrapK (by omega)]; done) | (simp; done) | omega) | fail))), 0, List.replicate n (0 : Int), Nat.zero_le _, List.length_replicate .., fun i _ h => by omega, rfl⟩ ?_
  rintro _ ⟨k, v, hk, hv, hset, rfl⟩
  by_cases hlt : k < z.cls.length
  · have d1 : decide (k < z.cls.length) = true := decide_eq_true hlt
    have hx := hXat k hlt
    have hxl := hXlt k hlt
    have w1 : IntKind.i64.wrap ((k : Int) + 1) = ((k + 1 : Nat) : Int) := wrapK (by omega)
    have hL := bitsList_A z.cls[k].attrs
    have hnn := hB.nn _ (List.getElem_mem hlt)
    have hbit : ∀ q : Nat, q ∈ lstN z.cls[k].attrs 31 ↔ (aN z.cls[k]).testBit q = true := fun q => by
      rw [lstN_mem]
      have hlow : low z.cls[k].attrs = aN z.cls[k] := by unfold low aN; omega
      constructor
      · rintro ⟨h1, h2⟩
        rw [hasB_low _ _ h1, hlow] at h2
        exact h2
      · intro h
        have h1 := hB.lt _ (List.getElem_mem hlt) q h
        exact ⟨by omega, by rw [hasB_low _ _ (by omega), hlow]; exact h⟩
    have hLn : ∀ q ∈ lstN z.cls[k].attrs 31, q < n := fun q hq => hB.lt _ (List.getElem_mem hlt) q ((hbit q).1 hq)
    have hdis : ∀ i (h : i < z.cls.length), i < k → ∀ q, q ∈ lstN z.cls[k].attrs 31 → (aN z.cls[i]).testBit q = true → False := fun i h hik q hq hb => by
      have := hB.dis i k h hlt q hb ((hbit q).1 hq)
      omega
    have hLl := lstN_len z.cls[k].attrs 31
    have hek : eCls z.cls[k] = [eI z.cls[k].attrs, eI z.cls[k].const] := rfl
    rw [hek] at hx
    generalize z.cls[k].attrs = at1 at *
    generalize z.cls[k].const = ct1 at *
    obtain ⟨L, hLe⟩ : ∃ L, lstN at1 31 = L := ⟨_, rfl⟩
    rw [hLe] at hL hbit hLn hdis hLl
    (repeat' (first | simp (maxSteps := 5000000) (implicitDefEqProofs := false) only [ruA, ruB, aEv, aTake, aLoad, aField, aIndex, aLen, aBin, bin2, aUn, un1, aExtract, aConv, ASt.get, aget, ASt.put, aStore, aBox, aAppend, aBuildSlice, aMake, aBuild, aFill, oneParts, allC, aBinS, yv, aCells, oneC, oneCL, treeC, treeL, aLit, aDst, aSrc, appTab, Value.cells, Value.oneCell', envOf, aResL, aOne, ↓reduceIte, reduceCtorEq, forall_const, Nat.reduceLT, Nat.reduceEqDiff, Nat.reduceAdd, Nat.reduceMul, Nat.reduceSub, Nat.reduceLeDiff, Nat.reduceBEq, eq_self, implies_true, ne_eq, dref, dref1, dref2, aExecS, aStoreB, aTakes, aTakeE, aElder, aFrom, aFresh, isLoad, aBuildSlice1, frzs, frz1, ownIds, AV.frz, AV.frzL, frzEnv, AV.shift, AV.shiftL, aFieldV, aSliceW, aSliceO, aSlice, aSliceR, aSliceS, aBd, aMax, frzAVs, frzAV, frzTab, AObj.frz, aMM, aNilS, aMay, aNil, tyA_25, tyS_25, tyF_25_0, tyA_22, tyS_22, tyE_22, tyK_22, tyR_26, tyZ_2, tyB_41, tyE_23, tyK_23, tyK_3, tyA_3, tyS_3, tyF_41_2, tyA_26, tyS_26, tyE_26, tyA_2, tyS_2, tyF_41_3, tyA_4, tyS_4, tyA_37, tyS_37, tyZ_37, tyF_37_0, d1, hx, hxl, Int.natCast_nonneg, Int.ofNat_lt, List.length_map, List.take_zero, List.nil_append] | (with_reducible refine aIf_split (fun _ => ?_) (fun _ => ?_)) | (with_reducible refine aSel_split (fun _ => ?_) (fun _ => ?_)) | (with_reducible refine aGd_split (fun _ => ?_) (fun _ => ?_)) | (with_reducible refine aDraw_quiet (by kernel_rfl) ?_)))
    refine callO hL (.inr (fun row hr av ha => by
      obtain ⟨m, _, rfl⟩ := List.mem_map.1 hr
      simp at ha
      rw [ha]
      trivial)) ?_
    (repeat' (first | simp (maxSteps := 5000000) (implicitDefEqProofs := false) only [ruA, ruB, aEv, aTake, aLoad, aField, aIndex, aLen, aBin, bin2, aUn, un1, aExtract, aConv, ASt.get, aget, ASt.put, aStore, aBox, aAppend, aBuildSlice, aMake, aBuild, aFill, oneParts, allC, aBinS, yv, aCells, oneC, oneCL, treeC, treeL, aLit, aDst, aSrc, appTab, Value.cells, Value.oneCell', envOf, aResL, aOne, ↓reduceIte, reduceCtorEq, forall_const, Nat.reduceLT, Nat.reduceEqDiff, Nat.reduceAdd, Nat.reduceMul, Nat.reduceSub, Nat.reduceLeDiff, Nat.reduceBEq, eq_self, implies_true, ne_eq, dref, dref1, dref2, aExecS, aStoreB, aTakes, aTakeE, aElder, aFrom, aFresh, isLoad, aBuildSlice1, frzs, frz1, ownIds, AV.frz, AV.frzL, frzEnv, AV.shift, AV.shiftL, aFieldV, aSliceW, aSliceO, aSlice, aSliceR, aSliceS, aBd, aMax, frzAVs, frzAV, frzTab, AObj.frz, aMM, aNilS, aMay, aNil, tyA_25, tyS_25, tyF_25_0, tyA_22, tyS_22, tyE_22, tyK_22, tyR_26, tyZ_2, tyB_41, tyE_23, tyK_23, tyK_3, tyA_3, tyS_3, tyF_41_2, tyA_26, tyS_26, tyE_26, tyA_2, tyS_2, tyF_41_3, tyA_4, tyS_4, tyA_37, tyS_37, tyZ_37, tyF_37_0, List.length_map] | (with_reducible refine aIf_split (fun _ => ?_) (fun _ => ?_)) | (with_reducible refine aSel_split (fun _ => ?_) (fun _ => ?_)) | (with_reducible refine aGd_split (fun _ => ?_) (fun _ => ?_))))
    refine aLoop_of (fun st => ∃ (j : Nat) (v' : List Int), j ≤ L.length ∧ v'.length = n ∧ (∀ i (h : i < z.cls.length), i < k → ∀ q, (aN z.cls[i]).testBit q = true → v'.getD q 0 = A.getD i 0) ∧ (∀ q ∈ L.take j, v'.getD q 0 = A.getD k 0) ∧ st = ⟨134, [(4, .op 0 0 0), (10, .op 2 0 0), (16, .osl 3), (17, eI (k : Int)), (106, .sl 2 X), (107, eI (z.cls.length : Int)), (108, eI (k : Int)), (115, .osl 4), (116, eI (L.length : Int)), (117, eI (j : Int))], [(0, zBox X z.gaps), (1, sRow A), (2, sBox X z.gaps cap 1), (3, sRow v'), (4, some (.row 3 1 (L.map fun n : Nat => [eI (n : Int)])))], 5⟩) (fun st => L.length - slotN st 117) ⟨_, (weak_ren1 [0, 1, 2, 3, 5] ⟨(by decide), (by (first | ((simp only [envInR, tabInR, envLt, tabLt, AObj.lt, AV.lt, AV.ltL, AV.ren, AV.renL, AObj.ren, List.getD_cons_zero, List.getD_cons_succ, List.length_cons, List.length_nil, ruW, ASt.get, aget, ASt.put, ↓reduceIte, reduceCtorEq, Nat.reduceLT, Nat.reduceEqDiff, Nat.reduceAdd, Nat.reduceLeDiff, eq_self, implies_true, List.length_map]) <;> (repeat' apply And.intro) <;> first | (rw [wrapK (by omega)]; done) | (simp; done) | omega) | fail))⟩), 0, v, Nat.zero_le _, hv, hset, fun q hq => by simp at hq, rfl⟩ ?_
    rintro _ ⟨j, v', hj, hv', hset', hdone, rfl⟩
    by_cases hjl : j < L.length
    · have d2 : decide (j < L.length) = true := decide_eq_true hjl
      have w2 : IntKind.i64.wrap ((j : Int) + 1) = ((j + 1 : Nat) : Int) := wrapK (by omega)
      have hkA : k < A.length := by omega
      have hLj := hLn _ (List.getElem_mem hjl)
      have hdj := fun i h hik => hdis i h hik _ (List.getElem_mem hjl)
      have htk : L.take (j + 1) = L.take j ++ [L[j]] := List.take_succ_eq_append_getElem hjl
      generalize hx2 : L[j] = a at *
      have hav : a < v'.length := by omega
      have hrow : (v'.map fun n : Int => [eI n]).set a [eI A[k]] = (v'.set a A[k]).map fun n => [eI n] := List.map_set.symm
      have hset2 : ∀ i (h : i < z.cls.length), i < k → ∀ q, (aN z.cls[i]).testBit q = true → (v'.set a A[k]).getD q 0 = A.getD i 0 := fun i h hik q hq => by
        rw [getD_set _ _ _ _ hav]
        split
        · rename_i e
          subst e
          exact (hdj i h hik hq).elim
        · exact hset' i h hik q hq
      have hdone2 : ∀ q ∈ L.take (j + 1), (v'.set a A[k]).getD q 0 = A.getD k 0 := fun q hq => by
        rw [getD_set _ _ _ _ hav]
        split
        · rw [gD_at hkA]
        · rename_i hne
          rw [htk, List.mem_append] at hq
          rcases hq with hq | hq
          · exact hdone q hq
          · simp at hq
            exact absurd hq.symm hne
      generalize hy : A[k] = y at *
      (repeat' (first | simp (maxSteps := 5000000) (implicitDefEqProofs := false) only [ruA, ruB, aEv, aTake, aLoad, aField, aIndex, aLen, aBin, bin2, aUn, un1, aExtract, aConv, ASt.get, aget, ASt.put, aStore, aBox, aAppend, aBuildSlice, aMake, aBuild, aFill, oneParts, allC, aBinS, yv, aCells, oneC, oneCL, treeC, treeL, aLit, aDst, aSrc, appTab, Value.cells, Value.oneCell', envOf, aResL, aOne, ↓reduceIte, reduceCtorEq, forall_const, Nat.reduceLT, Nat.reduceEqDiff, Nat.reduceAdd, Nat.reduceMul, Nat.reduceSub, Nat.reduceLeDiff, Nat.reduceBEq, eq_self, implies_true, ne_eq, dref, dref1, dref2, aExecS, aStoreB, aTakes, aTakeE, aElder, aFrom, aFresh, isLoad, aBuildSlice1, frzs, frz1, ownIds, AV.frz, AV.frzL, frzEnv, AV.shift, AV.shiftL, aFieldV, aSliceW, aSliceO, aSlice, aSliceR, aSliceS, aBd, aMax, frzAVs, frzAV, frzTab, AObj.frz, aMM, aNilS, aMay, aNil, tyA_25, tyS_25, tyF_25_0, tyA_22, tyS_22, tyE_22, tyK_22, tyR_26, tyZ_2, tyB_41, tyE_23, tyK_23, tyK_3, tyA_3, tyS_3, tyF_41_2, tyA_26, tyS_26, tyE_26, tyA_2, tyS_2, tyF_41_3, tyA_4, tyS_4, tyA_37, tyS_37, tyZ_37, tyF_37_0, d2, row_at, hjl, hx2, hkA, hy, hav, hv', hLj, hAl, hlt, hrow, w2, Int.natCast_nonneg, Int.ofNat_lt, List.length_map, List.take_zero, List.nil_append, List.drop_zero] | (with_reducible refine aIf_split (fun _ => ?_) (fun _ => ?_)) | (with_reducible refine aSel_split (fun _ => ?_) (fun _ => ?_)) | (with_reducible refine aGd_split (fun _ => ?_) (fun _ => ?_)) | (with_reducible refine aDraw_quiet (by kernel_rfl) ?_)))
      all_goals exact roundI (weak_cut1 (by (first | ((simp only [envIn, tabIn, envLt, tabLt, AObj.lt, AV.lt, AV.ltL, ruW, ASt.get, aget, ASt.put, ↓reduceIte, reduceCtorEq, Nat.reduceLT, Nat.reduceEqDiff, Nat.reduceAdd, Nat.reduceLeDiff, eq_self, implies_true, List.length_map]) <;> (repeat' apply And.intro) <;> first | (rw [wrapK (by omega)]; done) | (simp; done) | omega) | fail))) ⟨j + 1, v'.set a y, by omega, by rw [List.length_set, hv'], hset2, hdone2, rfl⟩ (by simp only [slotN, ruW, ASt.get, aget, ASt.put, ↓reduceIte, reduceCtorEq, Nat.reduceLT, Nat.reduceEqDiff, Nat.reduceAdd, Nat.reduceLeDiff, eq_self, implies_true]; omega)
    · obtain rfl : j = L.length := by omega
      rw [List.take_length] at hdone
      (repeat' (first | simp (maxSteps := 5000000) (implicitDefEqProofs := false) only [ruA, ruB, aEv, aTake, aLoad, aField, aIndex, aLen, aBin, bin2, aUn, un1, aExtract, aConv, ASt.get, aget, ASt.put, aStore, aBox, aAppend, aBuildSlice, aMake, aBuild, aFill, oneParts, allC, aBinS, yv, aCells, oneC, oneCL, treeC, treeL, aLit, aDst, aSrc, appTab, Value.cells, Value.oneCell', envOf, aResL, aOne, ↓reduceIte, reduceCtorEq, forall_const, Nat.reduceLT, Nat.reduceEqDiff, Nat.reduceAdd, Nat.reduceMul, Nat.reduceSub, Nat.reduceLeDiff, Nat.reduceBEq, eq_self, implies_true, ne_eq, dref, dref1, dref2, aExecS, aStoreB, aTakes, aTakeE, aElder, aFrom, aFresh, isLoad, aBuildSlice1, frzs, frz1, ownIds, AV.frz, AV.frzL, frzEnv, AV.shift, AV.shiftL, aFieldV, aSliceW, aSliceO, aSlice, aSliceR, aSliceS, aBd, aMax, frzAVs, frzAV, frzTab, AObj.frz, aMM, aNilS, aMay, aNil, tyA_25, tyS_25, tyF_25_0, tyA_22, tyS_22, tyE_22, tyK_22, tyR_26, tyZ_2, tyB_41, tyE_23, tyK_23, tyK_3, tyA_3, tyS_3, tyF_41_2, tyA_26, tyS_26, tyE_26, tyA_2, tyS_2, tyF_41_3, tyA_4, tyS_4, tyA_37, tyS_37, tyZ_37, tyF_37_0, hjl, w1, List.length_map] | (with_reducible refine aIf_split (fun _ => ?_) (fun _ => ?_)) | (with_reducible refine aSel_split (fun _ => ?_) (fun _ => ?_)) | (with_reducible refine aGd_split (fun _ => ?_) (fun _ => ?_)) | (with_reducible refine aDraw_quiet (by kernel_rfl) ?_)))
      all_goals refine roundI (weak_cut1 (by (first | ((simp only [envIn, tabIn, envLt, tabLt, AObj.lt, AV.lt, AV.ltL, ruW, ASt.get, aget, ASt.put, ↓reduceIte, reduceCtorEq, Nat.reduceLT, Nat.reduceEqDiff, Nat.reduceAdd, Nat.reduceLeDiff, eq_self, implies_true, hXl]) <;> (repeat' apply And.intro) <;> first | (rw [wrapK (by omega)]; done) | (simp; done) | omega) | fail))) ⟨k + 1, v', by omega, hv', fun i h hik q hq => ?_, rfl⟩ (by simp only [slotN, ruW, ASt.get, aget, ASt.put, ↓reduceIte, reduceCtorEq, Nat.reduceLT, Nat.reduceEqDiff, Nat.reduceAdd, Nat.reduceLeDiff, eq_self, implies_true]; omega)
      all_goals rcases Nat.lt_or_ge i k with h5 | h5
      · exact hset' i h h5 q hq
      · obtain rfl : i = k := by omega
        exact hdone q ((hbit q).2 hq)
  · obtain rfl : k = z.cls.length := by omega
    (repeat' (first | simp (maxSteps := 5000000) (implicitDefEqProofs := false) only [ruA, ruB, aEv, aTake, aLoad, aField, aIndex, aLen, aBin, bin2, aUn, un1, aExtract, aConv, ASt.get, aget, ASt.put, aStore, aBox, aAppend, aBuildSlice, aMake, aBuild, aFill, oneParts, allC, aBinS, yv, aCells, oneC, oneCL, treeC, treeL, aLit, aDst, aSrc, appTab, Value.cells, Value.oneCell', envOf, aResL, aOne, ↓reduceIte, reduceCtorEq, forall_const, Nat.reduceLT, Nat.reduceEqDiff, Nat.reduceAdd, Nat.reduceMul, Nat.reduceSub, Nat.reduceLeDiff, Nat.reduceBEq, eq_self, implies_true, ne_eq, dref, dref1, dref2, aExecS, aStoreB, aTakes, aTakeE, aElder, aFrom, aFresh, isLoad, aBuildSlice1, frzs, frz1, ownIds, AV.frz, AV.frzL, frzEnv, AV.shift, AV.shiftL, aFieldV, aSliceW, aSliceO, aSlice, aSliceR, aSliceS, aBd, aMax, frzAVs, frzAV, frzTab, AObj.frz, aMM, aNilS, aMay, aNil, tyA_25, tyS_25, tyF_25_0, tyA_22, tyS_22, tyE_22, tyK_22, tyR_26, tyZ_2, tyB_41, tyE_23, tyK_23, tyK_3, tyA_3, tyS_3, tyF_41_2, tyA_26, tyS_26, tyE_26, tyA_2, tyS_2, tyF_41_3, tyA_4, tyS_4, tyA_37, tyS_37, tyZ_37, tyF_37_0, hlt, hXl] | (with_reducible refine aIf_split (fun _ => ?_) (fun _ => ?_)) | (with_reducible refine aSel_split (fun _ => ?_) (fun _ => ?_)) | (with_reducible refine aGd_split (fun _ => ?_) (fun _ => ?_))))
    have hA' := hfin v hv fun i h q hq => hset i h h q hq
    have hv64 : ∀ x ∈ v, ok64 x := fun x hx => by
      obtain ⟨q, hq, rfl⟩ := List.getElem_of_mem hx
      obtain ⟨i, hi, hb⟩ := hB.all q (by omega)
      have := hset i hi hi q hb
      rw [gD_at hq] at this
      rw [this]
      have := hbd i
      unfold ok64
      omega
    exact ⟨⟨.tup [.osl 0, eB true], [(0, some (.row 2 1 (v.map fun n => [eI n])))], 1⟩, Or.inr ⟨hC, v, rfl, hv, hA', hv64⟩, sample_ok, ⟨[3], by simp, rfl, ⟨Nat.zero_lt_one, ⟨_, _, _, rfl⟩, by simp [ATab.get_cons]⟩, trivial⟩⟩
end
section
open Go.RowKit
theorem sameZz_A (z : Zn) (h1 : z.cls.length ≤ 1000000) (h2 : z.gaps.length ≤ 1000000) : ADet Try.prog 8 [.agg (eZn z), .agg (eZn z)] (val (.bool true)) :=
  (sameZ_A z z h1 h2).mono fun R ⟨b, h3, h4⟩ => by rw [h3, h4.2 rfl]
end
end Go.Proofs.Ytbahakgmbceflaa
