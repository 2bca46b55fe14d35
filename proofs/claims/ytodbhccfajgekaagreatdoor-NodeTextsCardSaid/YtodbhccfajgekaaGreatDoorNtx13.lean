/-
  Parts of the proof: W8, EvOpen, CO, Z5, WO, WDn.
-/
import Derived.Test.YtodbhccfajgekaaGreatDoorNtx12
import Derived.Test.YtodbhccfajgekaaGreatDoorProg
import Derived.Test.YtodbhccfajgekaaGreatDoorTie
import Derived.Test.YtodbhccfajgekaaGreatDoorCards
import Derived.LaidMore
import Derived.OpenShut
import Derived.Stop.Joined
import Derived.SevenTiedAt
set_option linter.unusedVariables false
set_option linter.unusedSimpArgs false
namespace Go.Proofs.YtodbhccfajgekaaGreatDoor
section
open Go.RowKit
/-- numbers of a node of 64 bits -/
structure NdK (n : Nd) : Prop where
  cls : ∀ c ∈ n.z.cls, ClsK c
  gaps : ∀ x ∈ n.z.gaps, ok64 x
  opn : ok64 n.opn
  don : ok64 n.don
  did : ∀ x ∈ n.did, ok64 x
  cnt : ∀ x ∈ n.cnt, ok64 x
structure NdL (n : Nd) : Prop where
  cls : n.z.cls.length ≤ 40
  gaps : n.z.gaps.length ≤ 40
  did : n.did.length ≤ 20
  cnt : n.cnt.length ≤ 20
theorem nd_stNums (n : Nd) (hl : NdL n) (hk : NdK n) : (stText ⟨[], n.opn, n.don, n.did, n.cnt⟩).length ≤ 2000 := by
  have h := numsT_len (stNums ⟨[], n.opn, n.don, n.did, n.cnt⟩) fun x hx => by
    simp only [stNums, List.mem_cons, List.mem_append] at hx
    rcases hx with rfl | hx | rfl | rfl | rfl | hx | rfl | hx
    · unfold ok64; simp
    · cases hx
    · exact hk.opn
    · exact hk.don
    · have := hl.did; unfold ok64; omega
    · exact hk.did x hx
    · have := hl.cnt; unfold ok64; omega
    · exact hk.cnt x hx
  have h2 : (stNums ⟨[], n.opn, n.don, n.did, n.cnt⟩).length ≤ 45 := by
    have := hl.did
    have := hl.cnt
    simp [stNums]
    omega
  unfold stText
  omega
set_option maxRecDepth 100000 in
set_option maxHeartbeats 8000000 in
theorem nodeText_A (n : Nd) (hl : NdL n) (hk : NdK n) : ADet Tryz.prog 6 [.agg (eNd n)] (val (.string (toB (ndText n)))) := by
  refine adet_of_code mixedT Tryz.func6 rfl (by decide) Tryz.ntmps6 Tryz.results6 rfl (val_ok _) ?_
  obtain ⟨l1, l2, l3, l4⟩ := id hl
  have hZ := zoneText_A n.z (by omega) (by omega) hk.cls hk.gaps
  have hSt := status_A (n.z.cls.map eCls) (n.z.gaps.map fun n => [eI n]) n.opn n.don n.did n.cnt (by omega) (by omega)
  have hT := (text_A ⟨[], n.opn, n.don, n.did, n.cnt⟩ (by simp) (by show n.did.length ≤ _; omega) (by show n.cnt.length ≤ _; omega) (by simp) hk.opn hk.don hk.did hk.cnt).fits (args := [.agg [.c (.slice none 0 0), eI n.opn, eI n.don, sI n.did, sI n.cnt]]) ⟨.agg ⟨.nil 1, .refl _, .refl _, .refl _, .refl _, trivial⟩, trivial⟩
  have z1 := znText_len n.z hk.cls hk.gaps
  have z2 := nd_stNums n hl hk
  have hN : znB n.z ++ toB [32, 47, 32] ++ stB ⟨[], n.opn, n.don, n.did, n.cnt⟩ = toB (ndText n) := by
    show toB (znText n.z) ++ toB [32, 47, 32] ++ toB (stText _) = _
    rw [toB_append, toB_append]
    rfl
  have s1 : (znB n.z).size + (toB [32, 47, 32]).size ≤ 9223372036854775807 := by
    show (toB (znText n.z)).size + _ ≤ _
    rw [size_toB, size_toB]
    simp
    omega
  have s2 : (znB n.z ++ toB [32, 47, 32]).size + (stB ⟨[], n.opn, n.don, n.did, n.cnt⟩).size ≤ 9223372036854775807 := by
    show (toB (znText n.z) ++ toB [32, 47, 32]).size + (toB (stText _)).size ≤ _
    rw [toB_append, size_toB, size_toB, List.length_append]
    simp
    omega
  have e1 : (if (znB n.z).size + (toB [32, 47, 32]).size ≤ 9223372036854775807 then some (Value.string (znB n.z ++ toB [32, 47, 32])) else none) = some (Value.string (znB n.z ++ toB [32, 47, 32])) := if_pos s1
  have e2 : (if (znB n.z ++ toB [32, 47, 32]).size + (stB ⟨[], n.opn, n.don, n.did, n.cnt⟩).size ≤ 9223372036854775807 then some (Value.string (toB (ndText n))) else none) = some (Value.string (toB (ndText n))) := if_pos s2
  have f3 : (⟨#[32, 47, 32]⟩ : ByteArray) = toB [32, 47, 32] := rfl
  generalize znB n.z = sz at *
  generalize stB ⟨[], n.opn, n.don, n.did, n.cnt⟩ = ss at *
  generalize toB (ndText n) = out at *
  clear s1 s2 z1 z2
  (repeat' (first | simp (maxSteps := 5000000) (implicitDefEqProofs := false) only [ruA, ruB, aEv, ASt.get, aget, ASt.put, aBox, aCells, oneC, oneCL, Value.oneCell', envOf, ↓reduceIte, Nat.reduceLT, eq_self] | (with_reducible refine aIf_split (fun _ => ?_) (fun _ => ?_)) | (with_reducible refine aSel_split (fun _ => ?_) (fun _ => ?_)) | (with_reducible refine aGd_split (fun _ => ?_) (fun _ => ?_))))
  refine aDraw_held [] [0, 1, 4] (.exec 2 (.take 3 (.exec 5 (.exec 6 (.take 7 (.exec 8 .done)))))) (by kernel_rfl) (by simp [ATab.get_cons]) ?_
  (repeat' (first | simp (maxSteps := 5000000) (implicitDefEqProofs := false) only [ruA, ruB, aEv, aTake, aLoad, aField, aBin, bin2, ASt.get, aget, ASt.put, aResL, aOne, ↓reduceIte, Nat.reduceLT, Nat.reduceEqDiff, Nat.reduceAdd, Nat.reduceLeDiff, eq_self, aTakes, aTakeE, aFrom, AV.shift, AV.shiftL, tyF_27_0, tyA_25, tyS_25, tyA_27, tyS_27, f3, e1, e2, hN] | (with_reducible refine aIf_split (fun _ => ?_) (fun _ => ?_)) | (with_reducible refine aSel_split (fun _ => ?_) (fun _ => ?_)) | (with_reducible refine aGd_split (fun _ => ?_) (fun _ => ?_)) | (with_reducible refine aDraw_quiet (by kernel_rfl) ?_) | ((with_reducible apply callV); exact (hZ)) | ((with_reducible apply callD); exact (hZ)) | ((with_reducible apply callT); exact (hSt); exact (.inl (by simp [roL, roA, treeL, treeC]))) | ((with_reducible apply callV); exact (hT)) | ((with_reducible apply callD); exact (hT))))
  all_goals simp_all
def ndEq (a b : Nd) : Bool := (decide (a.z.cls = b.z.cls) && decide (a.z.gaps = b.z.gaps)) && ((a.opn == b.opn) && (a.don == b.don) && decide (a.did = b.did) && decide (a.cnt = b.cnt))
theorem ndEq_iff (a b : Nd) : ndEq a b = true ↔ a = b := by
  unfold ndEq
  simp only [Bool.and_eq_true, decide_eq_true_eq, beq_iff_eq]
  constructor
  · rintro ⟨⟨h1, h2⟩, ⟨⟨h3, h4⟩, h5⟩, h6⟩
    obtain ⟨⟨c, g⟩, o, d, i, k⟩ := a
    obtain ⟨⟨c', g'⟩, o', d', i', k'⟩ := b
    simp at h1 h2 h3 h4 h5 h6
    rw [h1, h2, h3, h4, h5, h6]
  · rintro rfl
    simp
set_option maxRecDepth 100000 in
set_option maxHeartbeats 8000000 in
theorem sameNdR_A (a b : Nd) (hl : NdL a) : ADet Tryz.prog 7 [.agg (eNd a), .agg (eNd b)] (val (.bool (ndEq a b))) := by
  refine adet_of_code mixedT Tryz.func7 rfl (by decide) Tryz.ntmps7 Tryz.results7 rfl (val_ok _) ?_
  obtain ⟨l1, l2, l3, l4⟩ := id hl
  obtain ⟨t, htt, hS⟩ := adet_iff (sameZ_A a.z b.z (by omega) (by omega))
  have e0 : (decide (a.z.cls = b.z.cls) && decide (a.z.gaps = b.z.gaps)) = t := by rw [Bool.eq_iff_iff, zn_iff, htt]
  have hD := same10_A a.did b.did (by omega)
  have hC := same10_A a.cnt b.cnt (by omega)
  unfold ndEq
  rw [e0]
  clear htt e0
  (repeat' (first | simp (maxSteps := 5000000) (implicitDefEqProofs := false) only [ruA, ruB, aEv, aTake, aLoad, aField, aBin, bin2, ASt.get, aget, ASt.put, aBox, aCells, oneC, oneCL, Value.oneCell', envOf, aResL, aOne, ↓reduceIte, reduceCtorEq, Nat.reduceLT, Nat.reduceEqDiff, Nat.reduceAdd, Nat.reduceLeDiff, eq_self, tyF_27_0, tyA_25, tyS_25, tyF_27_1, tyA_3, tyS_3, tyF_27_2, tyF_27_3, tyA_23, tyS_23, tyF_27_4] | (with_reducible refine aIf_split (fun _ => ?_) (fun _ => ?_)) | (with_reducible refine aSel_split (fun _ => ?_) (fun _ => ?_)) | (with_reducible refine aGd_split (fun _ => ?_) (fun _ => ?_)) | (with_reducible refine aDraw_quiet (by kernel_rfl) ?_) | ((with_reducible apply callV); exact (hS)) | ((with_reducible apply callD); exact (hS)) | ((with_reducible apply callV); exact (hD)) | ((with_reducible apply callD); exact (hD)) | ((with_reducible apply callV); exact (hC)) | ((with_reducible apply callD); exact (hC))))
  all_goals grind
set_option maxRecDepth 100000 in
set_option maxHeartbeats 8000000 in
theorem nodeSame_A (a b : Nd) (hl : NdL a) (hlb : NdL b) : ADet Tryz.prog 8 [.agg (eNd a), .agg (eNd b)] (val (.bool (ndEq a b))) := by
  refine adet_of_code mixedT Tryz.func8 rfl (by decide) Tryz.ntmps8 Tryz.results8 rfl (val_ok _) ?_
  obtain ⟨l1, l2, l3, l4⟩ := id hl
  obtain ⟨k1, k2, k3, k4⟩ := id hlb
  have hZ := zoneSame_A a.z b.z (by omega) (by omega)
  have hSa := status_A (a.z.cls.map eCls) (a.z.gaps.map fun n => [eI n]) a.opn a.don a.did a.cnt (by omega) (by omega)
  have hSb := status_A (b.z.cls.map eCls) (b.z.gaps.map fun n => [eI n]) b.opn b.don b.did b.cnt (by omega) (by omega)
  have hP := (sameP_A ⟨[], a.opn, a.don, a.did, a.cnt⟩ ⟨[], b.opn, b.don, b.did, b.cnt⟩ (by simp) (by show a.did.length ≤ _; omega) (by show a.cnt.length ≤ _; omega)).fits (args := [.agg [.c (.slice none 0 0), eI a.opn, eI a.don, sI a.did, sI a.cnt], .agg [.c (.slice none 0 0), eI b.opn, eI b.don, sI b.did, sI b.cnt]]) ⟨.agg ⟨.nil 1, .refl _, .refl _, .refl _, .refl _, trivial⟩, .agg ⟨.nil 1, .refl _, .refl _, .refl _, .refl _, trivial⟩, trivial⟩
  have e : ndEq a b = ((decide (a.z.cls = b.z.cls) && decide (a.z.gaps = b.z.gaps)) && sameB ⟨[], a.opn, a.don, a.did, a.cnt⟩ ⟨[], b.opn, b.don, b.did, b.cnt⟩) := by
    unfold ndEq sameB
    simp
  rw [e]
  clear e
  generalize (decide (a.z.cls = b.z.cls) && decide (a.z.gaps = b.z.gaps)) = tz at *
  generalize sameB ⟨[], a.opn, a.don, a.did, a.cnt⟩ ⟨[], b.opn, b.don, b.did, b.cnt⟩ = ts at *
  (repeat' (first | simp (maxSteps := 5000000) (implicitDefEqProofs := false) only [ruA, ruB, aEv, ASt.get, aget, ASt.put, aBox, aCells, oneC, oneCL, Value.oneCell', envOf, ↓reduceIte, Nat.reduceLT, Nat.reduceEqDiff, Nat.reduceAdd, eq_self] | (with_reducible refine aIf_split (fun _ => ?_) (fun _ => ?_)) | (with_reducible refine aSel_split (fun _ => ?_) (fun _ => ?_)) | (with_reducible refine aGd_split (fun _ => ?_) (fun _ => ?_))))
  refine aDraw_held [] [0, 1, 2, 3] (.exec 4 (.take 5 (.take 6 (.take 8 (.exec 7 (.exec 9 (.exec 10 (.take 11 (.exec 12 .done))))))))) (by kernel_rfl) (by simp [ATab.get_cons]) ?_
  (repeat' (first | simp (maxSteps := 5000000) (implicitDefEqProofs := false) only [ruA, ruB, aEv, aTake, aLoad, aField, ASt.get, aget, ASt.put, aResL, aOne, ↓reduceIte, reduceCtorEq, Nat.reduceLT, Nat.reduceEqDiff, Nat.reduceAdd, Nat.reduceLeDiff, eq_self, aTakes, aTakeE, aElder, aFrom, AV.shift, AV.shiftL, tyF_27_0, tyA_25, tyS_25, tyA_27, tyS_27] | (with_reducible refine aIf_split (fun _ => ?_) (fun _ => ?_)) | (with_reducible refine aSel_split (fun _ => ?_) (fun _ => ?_)) | (with_reducible refine aGd_split (fun _ => ?_) (fun _ => ?_)) | (with_reducible refine aDraw_quiet (by kernel_rfl) ?_) | ((with_reducible apply callV); exact (hZ)) | ((with_reducible apply callD); exact (hZ)) | ((with_reducible apply callT); exact (hSa); exact (.inl (by simp [roL, roA, treeL, treeC]))) | ((with_reducible apply callT); exact (hSb); exact (.inl (by simp [roL, roA, treeL, treeC]))) | ((with_reducible apply callV); exact (hP)) | ((with_reducible apply callD); exact (hP))))
  all_goals simp_all
set_option maxRecDepth 100000 in
theorem great27G_A (n : Nd) : ARel Tryz.prog 4 [.agg (eNd n)] fun R => ∃ b, R = val (.bool b) ∧ (b = false → n.z.cls.length ≤ 40 ∧ n.z.gaps.length ≤ 40 ∧ n.did.length ≤ 20 ∧ n.cnt.length ≤ 20) := by
  refine arel_of_code mixedT Tryz.func4 rfl (by decide) Tryz.ntmps4 Tryz.results4 rfl ?_
  (repeat' (first | simp (maxSteps := 5000000) (implicitDefEqProofs := false) only [ruA, ruB, aEv, aTake, aLoad, aField, ASt.get, aget, ASt.put, aBox, aCells, oneC, oneCL, Value.oneCell', envOf, ↓reduceIte, Nat.reduceLT, Nat.reduceEqDiff, Nat.reduceAdd, Nat.reduceLeDiff, eq_self, tyF_27_0, tyA_25, tyS_25] | (with_reducible refine aIf_split (fun _ => ?_) (fun _ => ?_)) | (with_reducible refine aSel_split (fun _ => ?_) (fun _ => ?_)) | (with_reducible refine aGd_split (fun _ => ?_) (fun _ => ?_))))
  refine callPB (greatZ_A n.z) fun b hb => ?_
  cases b with
  | true =>
    (repeat' (first | simp (maxSteps := 5000000) (implicitDefEqProofs := false) only [ruA, ruB, aEv, ASt.get, aget, ASt.put, aResL, aOne, ↓reduceIte, Nat.reduceLT, Nat.reduceEqDiff, eq_self] | (with_reducible refine aIf_split (fun _ => ?_) (fun _ => ?_)) | (with_reducible refine aSel_split (fun _ => ?_) (fun _ => ?_)) | (with_reducible refine aGd_split (fun _ => ?_) (fun _ => ?_)) | (with_reducible refine aDraw_quiet (by kernel_rfl) ?_)))
    all_goals exact retV ⟨true, rfl, by simp⟩
  | false =>
    obtain ⟨g1, g2⟩ := hb rfl
    (repeat' (first | simp (maxSteps := 5000000) (implicitDefEqProofs := false) only [ruA, ruB, aEv, aTake, aLoad, aField, aLen, aBin, bin2, ASt.get, aget, ASt.put, aResL, aOne, ↓reduceIte, reduceCtorEq, Nat.reduceLT, Nat.reduceEqDiff, Nat.reduceAdd, Nat.reduceLeDiff, eq_self, ne_eq, tyF_27_3, tyA_23, tyS_23, tyE_23, tyF_27_4] | (with_reducible refine aIf_split (fun _ => ?_) (fun _ => ?_)) | (with_reducible refine aSel_split (fun _ => ?_) (fun _ => ?_)) | (with_reducible refine aGd_split (fun _ => ?_) (fun _ => ?_)) | (with_reducible refine aDraw_quiet (by kernel_rfl) ?_)))
    all_goals with_reducible refine retV ⟨_, rfl, fun h => ?_⟩
    all_goals first | (cases h; done) | (simp_all; omega)
set_option maxRecDepth 100000 in
set_option maxHeartbeats 8000000 in
theorem nodeTexts27_A (a b : Nd) (ha : NdK a) (hb : NdK b) : ADet Tryz.prog 3 [.agg (eNd a), .agg (eNd b)] (val (.bool true)) := by
  refine adet_of_code mixedT Tryz.func3 rfl (by decide) Tryz.ntmps3 Tryz.results3 rfl (val_ok _) ?_
  (repeat' (first | simp (maxSteps := 5000000) (implicitDefEqProofs := false) only [ruA, ruB, aEv, aTake, aLoad, ASt.get, aget, ASt.put, aBox, aCells, oneC, oneCL, Value.oneCell', envOf, ↓reduceIte, reduceCtorEq, Nat.reduceLT, Nat.reduceEqDiff, Nat.reduceAdd, eq_self, tyA_27, tyS_27] | (with_reducible refine aIf_split (fun _ => ?_) (fun _ => ?_)) | (with_reducible refine aSel_split (fun _ => ?_) (fun _ => ?_)) | (with_reducible refine aGd_split (fun _ => ?_) (fun _ => ?_))))
  refine callPB (great27G_A a) fun t ht => ?_
  cases t with
  | true =>
    (repeat' (first | simp (maxSteps := 5000000) (implicitDefEqProofs := false) only [ruA, ruB, aEv, ASt.get, aget, ASt.put, aResL, aOne, ↓reduceIte, Nat.reduceLT, Nat.reduceEqDiff, eq_self] | (with_reducible refine aIf_split (fun _ => ?_) (fun _ => ?_)) | (with_reducible refine aSel_split (fun _ => ?_) (fun _ => ?_)) | (with_reducible refine aGd_split (fun _ => ?_) (fun _ => ?_)) | (with_reducible refine aDraw_quiet (by kernel_rfl) ?_) | ((with_reducible apply callV (g := 5)); exact (awake27_A)) | ((with_reducible apply callD (g := 5)); exact (awake27_A))))
  | false =>
    obtain ⟨a1, a2, a3, a4⟩ := ht rfl
    have hla : NdL a := ⟨a1, a2, a3, a4⟩
    (repeat' (first | simp (maxSteps := 5000000) (implicitDefEqProofs := false) only [ruA, ruB, aEv, aTake, aLoad, ASt.get, aget, ASt.put, ↓reduceIte, Nat.reduceLT, Nat.reduceEqDiff, Nat.reduceAdd, eq_self, tyA_27, tyS_27] | (with_reducible refine aIf_split (fun _ => ?_) (fun _ => ?_)) | (with_reducible refine aSel_split (fun _ => ?_) (fun _ => ?_)) | (with_reducible refine aGd_split (fun _ => ?_) (fun _ => ?_))))
    refine callPB (great27G_A b) fun t2 ht2 => ?_
    cases t2 with
    | true =>
      (repeat' (first | simp (maxSteps := 5000000) (implicitDefEqProofs := false) only [ruA, ruB, aEv, ASt.get, aget, ASt.put, aResL, aOne, ↓reduceIte, Nat.reduceLT, Nat.reduceEqDiff, eq_self] | (with_reducible refine aIf_split (fun _ => ?_) (fun _ => ?_)) | (with_reducible refine aSel_split (fun _ => ?_) (fun _ => ?_)) | (with_reducible refine aGd_split (fun _ => ?_) (fun _ => ?_)) | (with_reducible refine aDraw_quiet (by kernel_rfl) ?_) | ((with_reducible apply callV (g := 5)); exact (awake27_A)) | ((with_reducible apply callD (g := 5)); exact (awake27_A))))
    | false =>
      obtain ⟨b1, b2, b3, b4⟩ := ht2 rfl
      have hlb : NdL b := ⟨b1, b2, b3, b4⟩
      have hTa := nodeText_A a hla ha
      have hTb := nodeText_A b hlb hb
      have hP := nodeSame_A a b hla hlb
      have hS := sameNdR_A a b hla
      have e : (toB (ndText a) == toB (ndText b)) = ndEq a b := by
        rw [bs_beq, Bool.eq_iff_iff, decide_eq_true_eq, ndEq_iff]
        exact ⟨fun h => ndText_inj (toB_inj h), fun h => by rw [h]⟩
      generalize toB (ndText a) = x at *
      generalize toB (ndText b) = y at *
      generalize ndEq a b = t at *
      have d1 : (t == t) = true := by simp
      (repeat' (first | simp (maxSteps := 5000000) (implicitDefEqProofs := false) only [ruA, ruB, aEv, aTake, aLoad, aBin, bin2, ASt.get, aget, ASt.put, aResL, aOne, ↓reduceIte, reduceCtorEq, Nat.reduceLT, Nat.reduceEqDiff, Nat.reduceAdd, eq_self, dref, dref1, tyA_27, tyS_27, tyK_9, tyK_4, e, d1] | (with_reducible refine aIf_split (fun _ => ?_) (fun _ => ?_)) | (with_reducible refine aSel_split (fun _ => ?_) (fun _ => ?_)) | (with_reducible refine aGd_split (fun _ => ?_) (fun _ => ?_)) | (with_reducible refine aDraw_quiet (by kernel_rfl) ?_) | ((with_reducible apply callV); exact (hTa)) | ((with_reducible apply callD); exact (hTa)) | ((with_reducible apply callV); exact (hTb)) | ((with_reducible apply callD); exact (hTb)) | ((with_reducible apply callV); exact (hP)) | ((with_reducible apply callD); exact (hP)) | ((with_reducible apply callV); exact (hS)) | ((with_reducible apply callD); exact (hS)) | ((with_reducible apply callV (g := 5)); exact (awake27_A)) | ((with_reducible apply callD (g := 5)); exact (awake27_A))))
end
section
open Go.RowKit

theorem opensInt : Opens Tryz.prog 3 (intR .i64) := opens_int Tryz.underlying3
theorem opensIntsE : Opens Tryz.prog 23 (sliceR (intR .i64)) := opens_slice Tryz.underlying23 (by kernel_rfl) (by decide) opensInt
end
section
open Go.RowKit
def Into {α : Type} (r : Rep α) (f : α → List AV) : Prop := ∀ (w : World) (S : Nat → Prop) (cs : List Value) (x : α), r.at_ w S cs x → (f x).length = r.size ∧ ∀ (j : Nat) (u : Value) (av : AV), cs[j]? = some u → (f x)[j]? = some av → RT w S u av ∧ u.oneCell' = true
theorem Into.slice {α : Type} {r : Rep α} {f : α → List AV} (h : Into r f) {w : World} {S : Nat → Prop} {v : Value} {l : List α} (hv : (sliceR r).one w S v l) : RT w S v (.sl r.size (l.map f)) := by
  obtain ⟨A, c, rfl, h1, h2⟩ := slice_form hv
  by_cases h0 : 0 < l.length
  · obtain ⟨b, o, rfl, hb, hrow⟩ := slice_some hv h0
    classical
    let cs : Nat → List Value := fun i => if hi : i < l.length then (hrow i hi).choose else []
    have hcs : ∀ i (hi : i < l.length), (∀ (j : Nat) (u : Value), (cs i)[j]? = some u → w.cell? ⟨b, o + i * r.size + j, none⟩ = some u) ∧ r.at_ w S (cs i) l[i] := fun i hi => by
      have := (hrow i hi).choose_spec
      simpa [cs, hi] using this
    have key : ∀ (i j : Nat) (row : List AV) (av : AV), (l.map f)[i]? = some row → row[j]? = some av → ∃ hi : i < l.length, (cs i)[j]? = some ((cs i).getD j undef) ∧ RT w S ((cs i).getD j undef) av ∧ ((cs i).getD j undef).oneCell' = true := fun i j row av h3 h4 => by
      have hi : i < l.length := by
        have := (List.getElem?_eq_some_iff.1 h3).1
        simpa using this
      have hf : row = f l[i] := by
        rw [List.getElem?_map, List.getElem?_eq_getElem hi] at h3
        exact (Option.some.inj h3).symm
      subst hf
      obtain ⟨h5, h6⟩ := h w S (cs i) l[i] (hcs i hi).2
      have hj : j < (cs i).length := by
        rw [r.len (hcs i hi).2, ← h5]
        exact (List.getElem?_eq_some_iff.1 h4).1
      have e : (cs i)[j]? = some ((cs i).getD j undef) := by
        rw [List.getD_eq_getElem?_getD, List.getElem?_eq_getElem hj]
        rfl
      exact ⟨hi, e, h6 j _ av e h4⟩
    refine .sl _ _ c r.size _ b o (fun i j => (cs i).getD j undef) (by simp) h1 h2 (fun _ => ⟨rfl, hb⟩) (fun row hr => ?_) (fun _ i j row av h3 h4 => ?_) (fun i j row av h3 h4 => (key i j row av h3 h4).elim fun _ h => h.2.2) (fun i j row av h3 h4 => (key i j row av h3 h4).elim fun _ h => h.2.1)
    · obtain ⟨i, hi, rfl⟩ := List.getElem_of_mem hr
      have hi : i < l.length := by simpa using hi
      simp only [List.getElem_map]
      exact (h w S (cs i) l[i] (hcs i hi).2).1
    · obtain ⟨hi, h5, _⟩ := key i j row av h3 h4
      exact (hcs i hi).1 j _ h5
  · have : l = [] := List.length_eq_zero_iff.1 (by omega)
    subst this
    exact .sl A 0 c r.size [] 0 0 (fun _ _ => undef) rfl h1 h2 (fun h => by omega) (by simp) (fun h => by omega) (by simp) (by simp)
theorem into_cells {α : Type} {r : Rep α} {f : α → List AV} (g : α → List Value) (hg : ∀ w S cs x, r.at_ w S cs x → cs = g x) (hs : ∀ x, (g x).length = r.size) (ho : ∀ x u, u ∈ g x → u.oneCell' = true) (hf : ∀ x, f x = (g x).map .c) : Into r f := fun w S cs x h => by
  obtain rfl := hg w S cs x h
  rw [hf]
  refine ⟨by simp [hs], fun j u av h1 h2 => ?_⟩
  rw [List.getElem?_map, h1] at h2
  cases h2
  exact ⟨.c u, ho x u (List.mem_of_getElem? h1)⟩
theorem into_int : Into (intR .i64) (fun n => [eI n]) := into_cells (fun n => [.int .i64 n]) (fun w S cs x h => h.1) (fun x => rfl) (fun x u h => by simp at h; subst h; rfl) (fun x => rfl)
theorem slice_one {α : Type} {r : Rep α} {w : World} {S : Nat → Prop} {v : Value} {l : List α} (h : (sliceR r).one w S v l) : v.oneCell' = true := by
  obtain ⟨A, c, rfl, _⟩ := slice_form h
  rfl
/-- every thing of a slice is one that may be -/
theorem slice_all {α : Type} {r : Rep α} {w : World} {S : Nat → Prop} {v : Value} {l : List α} {Q : α → Prop} (h : (sliceR r).one w S v l) (hq : ∀ cs x, r.at_ w S cs x → Q x) : ∀ x ∈ l, Q x := fun x hx => by
  obtain ⟨i, hi, rfl⟩ := List.getElem_of_mem hx
  obtain ⟨A, c, rfl, _⟩ := slice_form h
  obtain ⟨b, o, rfl, _, hrow⟩ := slice_some h (by omega)
  obtain ⟨cs, _, h2⟩ := hrow i hi
  exact hq cs _ h2
end
section
open Go.ChangeShapes Go.WideShapes Go.ChangeAt Go.RowKit
def clsR : Rep Cls where
  size := 2
  at_ := fun w S cs g => cs = [.int .i64 g.attrs, .int .i64 g.const] ∧ ok64 g.attrs ∧ ok64 g.const
  len := fun h => by rw [h.1]; rfl
  keep := fun h _ => h
  mono := fun h _ => h
theorem opensCls : Opens Tryz.prog 46 clsR := opens_map (r := pairR (intR .i64) (pairR (intR .i64) nilR)) (opens_struct Tryz.underlying46 (by kernel_rfl) (opensF_cons (by kernel_rfl) (by kernel_rfl) opensInt (opensF_cons (by kernel_rfl) (by kernel_rfl) opensInt (opensF_nil _ _)))) (fun p => ⟨p.1, p.2.1⟩) (by
  rintro w S cs ⟨s, n, _⟩ h
  obtain ⟨c0, q0, e0, ⟨a0, h0⟩, h⟩ := pair_inv h
  obtain ⟨c1, q1, e1, ⟨a1, h1⟩, h⟩ := pair_inv h
  have h : q1 = [] := h
  exact ⟨by rw [e0, e1, a0, a1, h]; rfl, wf_i64 h0, wf_i64 h1⟩)
theorem into_cls : Into clsR eCls := into_cells (fun p => [.int .i64 p.attrs, .int .i64 p.const]) (fun w S cs x h => h.1) (fun x => rfl) (fun x u h => by simp at h; rcases h with rfl | rfl <;> rfl) (fun x => rfl)
def ndR : Rep Nd where
  size := 6
  at_ := fun w S cs g => ∃ v1 v2 v3 v4, cs = [v1, v2, .int .i64 g.opn, .int .i64 g.don, v3, v4] ∧ (sliceR clsR).one w S v1 g.z.cls ∧ (sliceR (intR .i64)).one w S v2 g.z.gaps ∧ (sliceR (intR .i64)).one w S v3 g.did ∧ (sliceR (intR .i64)).one w S v4 g.cnt ∧ ok64 g.opn ∧ ok64 g.don
  len := fun ⟨_, _, _, _, h, _⟩ => by rw [h]; rfl
  keep := fun ⟨v1, v2, v3, v4, h, h1, h2, h3, h4, h5⟩ hk => ⟨v1, v2, v3, v4, h, slice_keep h1 hk, slice_keep h2 hk, slice_keep h3 hk, slice_keep h4 hk, h5⟩
  mono := fun ⟨v1, v2, v3, v4, h, h1, h2, h3, h4, h5⟩ hB => ⟨v1, v2, v3, v4, h, slice_mono h1 hB, slice_mono h2 hB, slice_mono h3 hB, slice_mono h4 hB, h5⟩
def znP : Rep (List Cls × List Int × Unit) := pairR (sliceR clsR) (pairR (sliceR (intR .i64)) nilR)
theorem opensZn : Opens Tryz.prog 25 znP := opens_struct Tryz.underlying25 (by kernel_rfl) (opensF_cons (by kernel_rfl) (by kernel_rfl) (opens_slice Tryz.underlying22 (by kernel_rfl) (by decide) opensCls) (opensF_cons (by kernel_rfl) (by kernel_rfl) opensIntsE (opensF_nil _ _)))
theorem opensNd : Opens Tryz.prog 27 ndR := opens_map (r := pairR znP (pairR (intR .i64) (pairR (intR .i64) (pairR (sliceR (intR .i64)) (pairR (sliceR (intR .i64)) nilR))))) (opens_struct Tryz.underlying27 (by kernel_rfl) (opensF_cons (by kernel_rfl) (by kernel_rfl) opensZn (opensF_cons (by kernel_rfl) (by kernel_rfl) opensInt (opensF_cons (by kernel_rfl) (by kernel_rfl) opensInt (opensF_cons (by kernel_rfl) (by kernel_rfl) opensIntsE (opensF_cons (by kernel_rfl) (by kernel_rfl) opensIntsE (opensF_nil _ _))))))) (fun p => ⟨⟨p.1.1, p.1.2.1⟩, p.2.1, p.2.2.1, p.2.2.2.1, p.2.2.2.2.1⟩) (by
  rintro w S cs ⟨⟨cl, gp, _⟩, o, d, di, cn, _⟩ h
  obtain ⟨c0, q0, e0, hz, h⟩ := pair_inv h
  obtain ⟨c1, q1, e1, ⟨a1, h1⟩, h⟩ := pair_inv h
  obtain ⟨c2, q2, e2, ⟨a2, h2⟩, h⟩ := pair_inv h
  obtain ⟨c3, q3, e3, h3, h⟩ := pair_inv h
  obtain ⟨c4, q4, e4, h4, h⟩ := pair_inv h
  have h : q4 = [] := h
  obtain ⟨z0, p0, f0, g0, hz⟩ := pair_inv hz
  obtain ⟨z1, p1, f1, g1, hz⟩ := pair_inv hz
  have hz : p1 = [] := hz
  obtain ⟨v1, rfl, g0⟩ := one_inv (r := sliceR clsR) rfl g0
  obtain ⟨v2, rfl, g1⟩ := one_inv (r := sliceR (intR .i64)) rfl g1
  obtain ⟨v3, rfl, h3⟩ := one_inv (r := sliceR (intR .i64)) rfl h3
  obtain ⟨v4, rfl, h4⟩ := one_inv (r := sliceR (intR .i64)) rfl h4
  exact ⟨v1, v2, v3, v4, by rw [e0, e1, e2, e3, e4, f0, f1, hz, a1, a2, h]; rfl, g0, g1, h3, h4, wf_i64 h1, wf_i64 h2⟩)
theorem into_nd : Into ndR eNd := fun w S cs x ⟨v1, v2, v3, v4, h1, h2, h3, h4, h5, _⟩ => by
  subst h1
  refine ⟨rfl, fun j u av h6 h7 => ?_⟩
  match j with
  | 0 => simp at h6 h7; subst h6; subst h7; exact ⟨into_cls.slice h2, slice_one h2⟩
  | 1 => simp at h6 h7; subst h6; subst h7; exact ⟨into_int.slice h3, slice_one h3⟩
  | 2 => simp at h6 h7; subst h6; subst h7; exact ⟨.c _, rfl⟩
  | 3 => simp at h6 h7; subst h6; subst h7; exact ⟨.c _, rfl⟩
  | 4 => simp at h6 h7; subst h6; subst h7; exact ⟨into_int.slice h4, slice_one h4⟩
  | 5 => simp at h6 h7; subst h6; subst h7; exact ⟨into_int.slice h5, slice_one h5⟩
  | j + 6 => simp at h6
end
section
open Go.ChangeShapes Go.WideShapes Go.ChangeAt Go.RowKit
theorem ndK_of {w : World} {S : Nat → Prop} {cs : List Value} {n : Nd} (h : ndR.at_ w S cs n) : NdK n := by
  obtain ⟨v1, v2, v3, v4, _, h2, h3, h4, h5, h6, h7⟩ := h
  exact ⟨slice_all h2 fun cs y h8 => ⟨h8.2.1, h8.2.2⟩, slice_all h3 fun cs y h8 => wf_i64 h8.2, h6, h7, slice_all h4 fun cs y h8 => wf_i64 h8.2, slice_all h5 fun cs y h8 => wf_i64 h8.2⟩
end
section
open Go.ChangeShapes Go.WideShapes Go.ChangeAt Go.RowKit
theorem gPow : Tryz.prog.globalNamed Tryz.powName = some 0 := by kernel_rfl
theorem tPow : (Tryz.prog.globals[0]?).map (·.type) = some 159 := by kernel_rfl
theorem pow_data : (Rows.laid_internal_strconv_uint64pow10 : DataW Unit) = Lib.tabData .u64 Lib.pow10Tab := by kernel_rfl
theorem tab_of_laid {W : World} (h : laidMetH Tryz.prog Rows.nodeTextsRow.laid W) : Tab W := by
  rw [MakeChecks.laidMetH_plain _ _ _ (by kernel_rfl)] at h
  obtain ⟨ps, ⟨g0, t0, cs0, f0, p0, q0, hg0, ht0, hv0, hd0, ⟨g1, t1, cs1, f1, p1, q1, hg1, ht1, hv1, hd1, ⟨g2, t2, cs2, f2, p2, q2, hg2, ht2, hv2, hd2, _, _⟩, _⟩, _⟩, _⟩ := h
  obtain rfl := Option.some.inj (gPow.symm.trans hg2)
  obtain rfl := Option.some.inj (tPow.symm.trans ht2)
  rw [pow_data] at hd2
  refine (show W.var? Tryz.prog Tryz.powName = some cs2 from hv2).trans ?_
  rw [← Lib.cells_of_tab Tryz.underlying159 Tryz.underlying107 (by kernel_rfl) (by kernel_rfl) hd2]
end
end Go.Proofs.YtodbhccfajgekaaGreatDoor
