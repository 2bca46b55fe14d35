/-
  Parts of the proof: T4, EvOpen, ModOpen.
-/
import Derived.Test.YtcindbpnaicemaaSkp14
import Derived.Test.YtcindbpnaicemaaProg
set_option linter.unusedVariables false
set_option linter.unusedSimpArgs false
namespace Go.Proofs.Ytcindbpnaicemaa
section
open Go.RowKit
set_option maxRecDepth 100000 in
set_option maxHeartbeats 8000000 in
theorem stepKeeps_A (m : Mod) (s : St) (vals : List Int) (hc : condOk m) (hp : ∀ p ∈ m.stages, ok64 p.2) (hr : ∀ p ∈ m.roles, ok64 p.2) (ht : ∀ e ∈ m.events, ok64 e.times) (hs : ∀ x ∈ s.vals, ok64 x) (ho : ok64 s.opn) (hd : ok64 s.don) (hdid : ∀ x ∈ s.did, ok64 x) (hv : ∀ x ∈ vals, ok64 x) :
    ADet Try.prog 3 [.agg (eMod m), .agg (eSt s), sI vals] (val (.bool true)) := by
  refine adet_of_code mixedT Try.func3 rfl (by decide) Try.ntmps3 Try.results3 rfl (val_ok _) ?_
  (repeat' (first | simp (maxSteps := 5000000) (implicitDefEqProofs := false) only [ruA, ruB, aEv, aTake, aLoad, ASt.get, aget, ASt.put, aBox, aCells, oneC, oneCL, Value.oneCell', envOf, ↓reduceIte, reduceCtorEq, Nat.reduceLT, Nat.reduceEqDiff, Nat.reduceAdd, eq_self, tyA_32, tyS_32] | (with_reducible refine aIf_split (fun _ => ?_) (fun _ => ?_)) | (with_reducible refine aSel_split (fun _ => ?_) (fun _ => ?_)) | (with_reducible refine aGd_split (fun _ => ?_) (fun _ => ?_))))
  refine callPB (great12_A m) fun b hb => ?_
  cases b with
  | true => (repeat' (first | simp (maxSteps := 5000000) (implicitDefEqProofs := false) only [ruA, ruB, aEv, ASt.get, aget, ASt.put, aResL, aOne, ↓reduceIte, Nat.reduceLT, Nat.reduceEqDiff, eq_self] | (with_reducible refine aIf_split (fun _ => ?_) (fun _ => ?_)) | (with_reducible refine aSel_split (fun _ => ?_) (fun _ => ?_)) | (with_reducible refine aGd_split (fun _ => ?_) (fun _ => ?_)) | (with_reducible refine aDraw_quiet (by kernel_rfl) ?_) | ((with_reducible apply callV (g := 8)); exact (awake19_A)) | ((with_reducible apply callD (g := 8)); exact (awake19_A))))
  | false =>
  have hf := hb rfl
  (repeat' (first | simp (maxSteps := 5000000) (implicitDefEqProofs := false) only [ruA, ruB, aEv, aTake, aLoad, ASt.get, aget, ASt.put, ↓reduceIte, Nat.reduceLT, Nat.reduceEqDiff, Nat.reduceAdd, eq_self, tyA_35, tyS_35] | (with_reducible refine aIf_split (fun _ => ?_) (fun _ => ?_)) | (with_reducible refine aSel_split (fun _ => ?_) (fun _ => ?_)) | (with_reducible refine aGd_split (fun _ => ?_) (fun _ => ?_))))
  refine callPB (great15_A s) fun b2 hb2 => ?_
  cases b2 with
  | true => (repeat' (first | simp (maxSteps := 5000000) (implicitDefEqProofs := false) only [ruA, ruB, aEv, ASt.get, aget, ASt.put, aResL, aOne, ↓reduceIte, Nat.reduceLT, Nat.reduceEqDiff, eq_self] | (with_reducible refine aIf_split (fun _ => ?_) (fun _ => ?_)) | (with_reducible refine aSel_split (fun _ => ?_) (fun _ => ?_)) | (with_reducible refine aGd_split (fun _ => ?_) (fun _ => ?_)) | (with_reducible refine aDraw_quiet (by kernel_rfl) ?_) | ((with_reducible apply callV (g := 8)); exact (awake19_A)) | ((with_reducible apply callD (g := 8)); exact (awake19_A))))
  | false =>
  have hfs := hb2 rfl
  by_cases hv50 : vals.length ≤ 50
  case neg =>
    have d0 : decide ((50 : Int) < (vals.length : Int)) = true := decide_eq_true (by omega)
    (repeat' (first | simp (maxSteps := 5000000) (implicitDefEqProofs := false) only [ruA, ruB, aEv, aLen, aBin, bin2, ASt.get, aget, ASt.put, aResL, aOne, ↓reduceIte, Nat.reduceLT, Nat.reduceEqDiff, eq_self, ne_eq, aLenM, false_or, tyE_23, d0] | (with_reducible refine aIf_split (fun _ => ?_) (fun _ => ?_)) | (with_reducible refine aSel_split (fun _ => ?_) (fun _ => ?_)) | (with_reducible refine aGd_split (fun _ => ?_) (fun _ => ?_)) | (with_reducible refine aDraw_quiet (by kernel_rfl) ?_) | ((with_reducible apply callV (g := 8)); exact (awake19_A)) | ((with_reducible apply callD (g := 8)); exact (awake19_A))))
  have d0 : decide ((50 : Int) < (vals.length : Int)) = false := decide_eq_false (by omega)
  (repeat' (first | simp (maxSteps := 5000000) (implicitDefEqProofs := false) only [ruA, ruB, aEv, aTake, aLoad, aLen, aBin, bin2, ASt.get, aget, ASt.put, ↓reduceIte, reduceCtorEq, Nat.reduceLT, Nat.reduceEqDiff, Nat.reduceAdd, eq_self, ne_eq, aLenM, false_or, tyA_32, tyS_32, tyE_23, d0] | (with_reducible refine aIf_split (fun _ => ?_) (fun _ => ?_)) | (with_reducible refine aSel_split (fun _ => ?_) (fun _ => ?_)) | (with_reducible refine aGd_split (fun _ => ?_) (fun _ => ?_))))
  refine callPB (check13_A m hf hp) fun b3 hck => ?_
  cases b3 with
  | false => (repeat' (first | simp (maxSteps := 5000000) (implicitDefEqProofs := false) only [ruA, ruB, aEv, aUn, un1, ASt.get, aget, ASt.put, aResL, aOne, ↓reduceIte, Nat.reduceLT, Nat.reduceEqDiff, eq_self] | (with_reducible refine aIf_split (fun _ => ?_) (fun _ => ?_)) | (with_reducible refine aSel_split (fun _ => ?_) (fun _ => ?_)) | (with_reducible refine aGd_split (fun _ => ?_) (fun _ => ?_)) | (with_reducible refine aDraw_quiet (by kernel_rfl) ?_) | ((with_reducible apply callV (g := 8)); exact (awake19_A)) | ((with_reducible apply callD (g := 8)); exact (awake19_A))))
  | true =>
  have hck := hck rfl
  obtain ⟨hgl, hml, hsl, hel, hal, hul, hrl, hsol, hol, hil⟩ := id hf.sizes
  have hC := checkR_A m s (by omega) ho hd hdid
  cases hchk : chkS m s with
  | false =>
    rw [hchk] at hC
    (repeat' (first | simp (maxSteps := 5000000) (implicitDefEqProofs := false) only [ruA, ruB, aEv, aTake, aLoad, aUn, un1, ASt.get, aget, ASt.put, aResL, aOne, ↓reduceIte, reduceCtorEq, Nat.reduceLT, Nat.reduceEqDiff, Nat.reduceAdd, eq_self, tyA_32, tyS_32, tyA_35, tyS_35] | (with_reducible refine aIf_split (fun _ => ?_) (fun _ => ?_)) | (with_reducible refine aSel_split (fun _ => ?_) (fun _ => ?_)) | (with_reducible refine aGd_split (fun _ => ?_) (fun _ => ?_)) | (with_reducible refine aDraw_quiet (by kernel_rfl) ?_) | ((with_reducible apply callV); exact (hC)) | ((with_reducible apply callD); exact (hC)) | ((with_reducible apply callV (g := 8)); exact (awake19_A)) | ((with_reducible apply callD (g := 8)); exact (awake19_A))))
  | true =>
  rw [hchk] at hC
  (repeat' (first | simp (maxSteps := 5000000) (implicitDefEqProofs := false) only [ruA, ruB, aEv, aTake, aLoad, aUn, un1, ASt.get, aget, ASt.put, ↓reduceIte, reduceCtorEq, Nat.reduceLT, Nat.reduceEqDiff, Nat.reduceAdd, eq_self, tyA_32, tyS_32, tyA_35, tyS_35] | (with_reducible refine aIf_split (fun _ => ?_) (fun _ => ?_)) | (with_reducible refine aSel_split (fun _ => ?_) (fun _ => ?_)) | (with_reducible refine aGd_split (fun _ => ?_) (fun _ => ?_))))
  refine callV hC ?_
  (repeat' (first | simp (maxSteps := 5000000) (implicitDefEqProofs := false) only [ruA, ruB, aEv, aUn, un1, ASt.get, aget, ASt.put, ↓reduceIte, Nat.reduceLT, Nat.reduceEqDiff, eq_self] | (with_reducible refine aIf_split (fun _ => ?_) (fun _ => ?_)) | (with_reducible refine aSel_split (fun _ => ?_) (fun _ => ?_)) | (with_reducible refine aGd_split (fun _ => ?_) (fun _ => ?_))))
  refine aDraw_join (fun st' => st' = ⟨183, [(3, .op 0 0 0), (4, .op 1 0 0), (7, .op 2 0 0), (2, sI vals)], base5 m s, 6⟩) [] [1, 2, 4, 5, 6, 7, 9, 10, 13, 14] (.four 0 (.four 3 (.three 8 (.three 11 (.two 12 (.two 15 (.take 16 (.exec 17 (.exec 18 .done))) 17 (.exec 15 (.take 16 (.exec 18 .done)))) 17 (.exec 12 (.exec 15 (.take 16 (.exec 18 .done))))) 12 (.two 11 (.two 15 (.take 16 (.exec 17 (.exec 18 .done))) 17 (.exec 15 (.take 16 (.exec 18 .done)))) 17 (.exec 11 (.exec 15 (.take 16 (.exec 18 .done))))) 17 (.two 11 (.exec 12 (.exec 15 (.take 16 (.exec 18 .done)))) 12 (.exec 11 (.exec 15 (.take 16 (.exec 18 .done)))))) 12 (.two 8 (.two 11 (.two 15 (.take 16 (.exec 17 (.exec 18 .done))) 17 (.exec 15 (.take 16 (.exec 18 .done)))) 17 (.exec 11 (.exec 15 (.take 16 (.exec 18 .done))))) 17 (.exec 8 (.exec 11 (.exec 15 (.take 16 (.exec 18 .done)))))) 17 (.two 8 (.two 11 (.exec 12 (.exec 15 (.take 16 (.exec 18 .done)))) 12 (.exec 11 (.exec 15 (.take 16 (.exec 18 .done))))) 12 (.exec 8 (.exec 11 (.exec 15 (.take 16 (.exec 18 .done))))))) 8 (.three 3 (.three 11 (.two 12 (.two 15 (.take 16 (.exec 17 (.exec 18 .done))) 17 (.exec 15 (.take 16 (.exec 18 .done)))) 17 (.exec 12 (.exec 15 (.take 16 (.exec 18 .done))))) 12 (.two 11 (.two 15 (.take 16 (.exec 17 (.exec 18 .done))) 17 (.exec 15 (.take 16 (.exec 18 .done)))) 17 (.exec 11 (.exec 15 (.take 16 (.exec 18 .done))))) 17 (.two 11 (.exec 12 (.exec 15 (.take 16 (.exec 18 .done)))) 12 (.exec 11 (.exec 15 (.take 16 (.exec 18 .done)))))) 12 (.two 3 (.two 11 (.two 15 (.take 16 (.exec 17 (.exec 18 .done))) 17 (.exec 15 (.take 16 (.exec 18 .done)))) 17 (.exec 11 (.exec 15 (.take 16 (.exec 18 .done))))) 17 (.exec 3 (.exec 11 (.exec 15 (.take 16 (.exec 18 .done)))))) 17 (.two 3 (.two 11 (.exec 12 (.exec 15 (.take 16 (.exec 18 .done)))) 12 (.exec 11 (.exec 15 (.take 16 (.exec 18 .done))))) 12 (.exec 3 (.exec 11 (.exec 15 (.take 16 (.exec 18 .done))))))) 12 (.three 3 (.two 8 (.two 11 (.two 15 (.take 16 (.exec 17 (.exec 18 .done))) 17 (.exec 15 (.take 16 (.exec 18 .done)))) 17 (.exec 11 (.exec 15 (.take 16 (.exec 18 .done))))) 17 (.exec 8 (.exec 11 (.exec 15 (.take 16 (.exec 18 .done)))))) 8 (.two 3 (.two 11 (.two 15 (.take 16 (.exec 17 (.exec 18 .done))) 17 (.exec 15 (.take 16 (.exec 18 .done)))) 17 (.exec 11 (.exec 15 (.take 16 (.exec 18 .done))))) 17 (.exec 3 (.exec 11 (.exec 15 (.take 16 (.exec 18 .done)))))) 17 (.two 3 (.exec 8 (.exec 11 (.exec 15 (.take 16 (.exec 18 .done))))) 8 (.exec 3 (.exec 11 (.exec 15 (.take 16 (.exec 18 .done))))))) 17 (.three 3 (.two 8 (.two 11 (.exec 12 (.exec 15 (.take 16 (.exec 18 .done)))) 12 (.exec 11 (.exec 15 (.take 16 (.exec 18 .done))))) 12 (.exec 8 (.exec 11 (.exec 15 (.take 16 (.exec 18 .done)))))) 8 (.two 3 (.two 11 (.exec 12 (.exec 15 (.take 16 (.exec 18 .done)))) 12 (.exec 11 (.exec 15 (.take 16 (.exec 18 .done))))) 12 (.exec 3 (.exec 11 (.exec 15 (.take 16 (.exec 18 .done)))))) 12 (.two 3 (.exec 8 (.exec 11 (.exec 15 (.take 16 (.exec 18 .done))))) 8 (.exec 3 (.exec 11 (.exec 15 (.take 16 (.exec 18 .done)))))))) 8 (.three 0 (.three 3 (.three 11 (.two 12 (.two 15 (.take 16 (.exec 17 (.exec 18 .done))) 17 (.exec 15 (.take 16 (.exec 18 .done)))) 17 (.exec 12 (.exec 15 (.take 16 (.exec 18 .done))))) 12 (.two 11 (.two 15 (.take 16 (.exec 17 (.exec 18 .done))) 17 (.exec 15 (.take 16 (.exec 18 .done)))) 17 (.exec 11 (.exec 15 (.take 16 (.exec 18 .done))))) 17 (.two 11 (.exec 12 (.exec 15 (.take 16 (.exec 18 .done)))) 12 (.exec 11 (.exec 15 (.take 16 (.exec 18 .done)))))) 12 (.two 3 (.two 11 (.two 15 (.take 16 (.exec 17 (.exec 18 .done))) 17 (.exec 15 (.take 16 (.exec 18 .done)))) 17 (.exec 11 (.exec 15 (.take 16 (.exec 18 .done))))) 17 (.exec 3 (.exec 11 (.exec 15 (.take 16 (.exec 18 .done)))))) 17 (.two 3 (.two 11 (.exec 12 (.exec 15 (.take 16 (.exec 18 .done)))) 12 (.exec 11 (.exec 15 (.take 16 (.exec 18 .done))))) 12 (.exec 3 (.exec 11 (.exec 15 (.take 16 (.exec 18 .done))))))) 12 (.two 0 (.two 3 (.two 11 (.two 15 (.take 16 (.exec 17 (.exec 18 .done))) 17 (.exec 15 (.take 16 (.exec 18 .done)))) 17 (.exec 11 (.exec 15 (.take 16 (.exec 18 .done))))) 17 (.exec 3 (.exec 11 (.exec 15 (.take 16 (.exec 18 .done)))))) 17 (.exec 0 (.exec 3 (.exec 11 (.exec 15 (.take 16 (.exec 18 .done))))))) 17 (.two 0 (.two 3 (.two 11 (.exec 12 (.exec 15 (.take 16 (.exec 18 .done)))) 12 (.exec 11 (.exec 15 (.take 16 (.exec 18 .done))))) 12 (.exec 3 (.exec 11 (.exec 15 (.take 16 (.exec 18 .done)))))) 12 (.exec 0 (.exec 3 (.exec 11 (.exec 15 (.take 16 (.exec 18 .done)))))))) 12 (.three 0 (.three 3 (.two 8 (.two 11 (.two 15 (.take 16 (.exec 17 (.exec 18 .done))) 17 (.exec 15 (.take 16 (.exec 18 .done)))) 17 (.exec 11 (.exec 15 (.take 16 (.exec 18 .done))))) 17 (.exec 8 (.exec 11 (.exec 15 (.take 16 (.exec 18 .done)))))) 8 (.two 3 (.two 11 (.two 15 (.take 16 (.exec 17 (.exec 18 .done))) 17 (.exec 15 (.take 16 (.exec 18 .done)))) 17 (.exec 11 (.exec 15 (.take 16 (.exec 18 .done))))) 17 (.exec 3 (.exec 11 (.exec 15 (.take 16 (.exec 18 .done)))))) 17 (.two 3 (.exec 8 (.exec 11 (.exec 15 (.take 16 (.exec 18 .done))))) 8 (.exec 3 (.exec 11 (.exec 15 (.take 16 (.exec 18 .done))))))) 8 (.two 0 (.two 3 (.two 11 (.two 15 (.take 16 (.exec 17 (.exec 18 .done))) 17 (.exec 15 (.take 16 (.exec 18 .done)))) 17 (.exec 11 (.exec 15 (.take 16 (.exec 18 .done))))) 17 (.exec 3 (.exec 11 (.exec 15 (.take 16 (.exec 18 .done)))))) 17 (.exec 0 (.exec 3 (.exec 11 (.exec 15 (.take 16 (.exec 18 .done))))))) 17 (.two 0 (.two 3 (.exec 8 (.exec 11 (.exec 15 (.take 16 (.exec 18 .done))))) 8 (.exec 3 (.exec 11 (.exec 15 (.take 16 (.exec 18 .done)))))) 8 (.exec 0 (.exec 3 (.exec 11 (.exec 15 (.take 16 (.exec 18 .done)))))))) 17 (.three 0 (.three 3 (.two 8 (.two 11 (.exec 12 (.exec 15 (.take 16 (.exec 18 .done)))) 12 (.exec 11 (.exec 15 (.take 16 (.exec 18 .done))))) 12 (.exec 8 (.exec 11 (.exec 15 (.take 16 (.exec 18 .done)))))) 8 (.two 3 (.two 11 (.exec 12 (.exec 15 (.take 16 (.exec 18 .done)))) 12 (.exec 11 (.exec 15 (.take 16 (.exec 18 .done))))) 12 (.exec 3 (.exec 11 (.exec 15 (.take 16 (.exec 18 .done)))))) 12 (.two 3 (.exec 8 (.exec 11 (.exec 15 (.take 16 (.exec 18 .done))))) 8 (.exec 3 (.exec 11 (.exec 15 (.take 16 (.exec 18 .done))))))) 8 (.two 0 (.two 3 (.two 11 (.exec 12 (.exec 15 (.take 16 (.exec 18 .done)))) 12 (.exec 11 (.exec 15 (.take 16 (.exec 18 .done))))) 12 (.exec 3 (.exec 11 (.exec 15 (.take 16 (.exec 18 .done)))))) 12 (.exec 0 (.exec 3 (.exec 11 (.exec 15 (.take 16 (.exec 18 .done))))))) 12 (.two 0 (.two 3 (.exec 8 (.exec 11 (.exec 15 (.take 16 (.exec 18 .done))))) 8 (.exec 3 (.exec 11 (.exec 15 (.take 16 (.exec 18 .done)))))) 8 (.exec 0 (.exec 3 (.exec 11 (.exec 15 (.take 16 (.exec 18 .done))))))))) (by kernel_rfl) (by simp [ATab.get_cons]) ?_ ?_
  · obtain ⟨hv1, hv2, hv3⟩ := id hfs
    (repeat' (first | simp (maxSteps := 5000000) (implicitDefEqProofs := false) only [ruA, ruB, aEv, aTake, aLoad, aField, ASt.get, aget, ASt.put, aBox, aAppend, aBuildSlice, aBuild, aFill, oneParts, aCells, oneC, oneCL, aLit, aDst, aSrc, appTab, Value.cells, Value.oneCell', ↓reduceIte, reduceCtorEq, Nat.reduceLT, Nat.reduceEqDiff, Nat.reduceAdd, Nat.reduceMul, Nat.reduceLeDiff, eq_self, aExecS, aStoreB, aTakes, aTakeE, aFrom, aFresh, aBuildSlice1, frzs, ownIds, aMay, tyS_35, tyR_23, tyF_35_0, tyA_23, tyS_23, tyF_35_1, tyA_3, tyS_3, tyF_35_2, tyR_33, tyF_35_3, tyA_33, tyS_33, tyF_35_4, tyB_35, tyZ_35] | (with_reducible refine aIf_split (fun _ => ?_) (fun _ => ?_)) | (with_reducible refine aSel_split (fun _ => ?_) (fun _ => ?_)) | (with_reducible refine aGd_split (fun _ => ?_) (fun _ => ?_)) | (with_reducible refine aDraw_quiet (by kernel_rfl) ?_) | (with_reducible apply And.intro)))
    all_goals first
      | rfl
      | omega
      | exact was_weak rfl rfl rfl rfl rfl rfl rfl rfl rfl rfl rfl (by decide)
      | trace_state
  rintro _ rfl
  have hB := base_ok m s
  have hbl : base5 m s = [(0, some (.box 32 (eMod m))), (1, some (.box 35 (eSt s))), (2, some (.box 35 [.osl 3, eI s.opn, eI s.don, .osl 4, .osl 5])), (3, some (.row 2 1 (eNs s.vals))), (4, some (.row 3 1 (eNs s.did))), (5, some (.row 3 1 (eNs s.cnt)))] := rfl
  have b0 := hB.t0
  have b1 := hB.t1
  (repeat' (first | simp (maxSteps := 5000000) (implicitDefEqProofs := false) only [ruA, ruB, aEv, aTake, aLoad, ASt.get, aget, ASt.put, ↓reduceIte, Nat.reduceLT, Nat.reduceEqDiff, Nat.reduceAdd, eq_self, tyA_32, tyS_32, tyA_35, tyS_35, b0, b1] | (with_reducible refine aIf_split (fun _ => ?_) (fun _ => ?_)) | (with_reducible refine aSel_split (fun _ => ?_) (fun _ => ?_)) | (with_reducible refine aGd_split (fun _ => ?_) (fun _ => ?_))))
  refine callP (moves_A m s hf hchk) ?_
  rintro R hR
  refine ⟨.inl (by simp [roL, roA, treeL, treeC]), ?_⟩
  have hW : ∃ (o : Nat) (T : ATab) (X : Nat → AV), R.r.shift 6 = .osl o ∧ LawOK m s T o X (lawL m s) 0 (6 + R.n) ∧ ∀ N env, Weak ⟨N, env, R.tab.shift 6 ++ base5 m s, 6 + R.n⟩ ⟨N, env, T, 6 + R.n⟩ := by
    rcases hR with ⟨hl0, rfl⟩ | ⟨T, nx, o, ids, hl0, hN, rfl⟩
    · have e0 : lawL m s = [⟨-1, -1, []⟩] := if_pos hl0
      rw [e0]
      exact ⟨6, _, _, rfl, law_idle, fun N env => weak_nest 6 rfl⟩
    · have e0 : lawL m s = mvsM m s m.events.length := if_neg hl0
      rw [e0]
      exact ⟨o + 6, _, _, rfl, law_init hN, fun N env => weak_refl _⟩
  clear hR
  obtain ⟨o, T, X, hr8, hL, hWk⟩ := hW
  have hn6 : 0 < 6 + R.n := by omega
  (repeat' (first | simp (maxSteps := 5000000) (implicitDefEqProofs := false) only [ruA, aEv, ASt.get, aget, ASt.put, ↓reduceIte, Nat.reduceLT, eq_self, hr8] | (with_reducible refine aIf_split (fun _ => ?_) (fun _ => ?_)) | (with_reducible refine aSel_split (fun _ => ?_) (fun _ => ?_)) | (with_reducible refine aGd_split (fun _ => ?_) (fun _ => ?_))))
  generalize R.tab.shift 6 ++ base5 m s = T0 at hWk ⊢
  generalize 6 + R.n = nx at hL hWk hn6 ⊢
  obtain ⟨l, hl⟩ : ∃ l, l = lawL m s := ⟨_, rfl⟩
  rw [← hl] at hL
  have hlpos : 0 < l.length := by
    rw [hl]
    unfold lawL
    split
    · simp
    · rename_i h
      exact List.length_pos_iff.2 h
  have hlz : ∀ v ∈ l, ∀ x ∈ v.vals, ok64 x := by
    rw [hl]
    unfold lawL
    split
    · simp
    · exact mvs_zero
  have hlv : ∀ v ∈ l, v.vals.length ≤ 10 := by
    rw [hl]
    unfold lawL
    split
    · simp
    · intro v hv
      obtain ⟨e, he⟩ := mvs_of (Nat.le_refl _) v hv
      rw [he.len]
      have := he.lt
      simp only [List.getElem?_eq_getElem he.lt, Option.map_some, Option.getD_some]
      exact hf.events _ (List.getElem_mem _)
  have hlen : l.length ≤ 1000 := by
    rw [hl]
    unfold lawL
    split
    · simp
    · have h1 := mvsM_len m s m.events.length
      have h2 : m.users.length * m.events.length ≤ 10 * 10 := Nat.mul_le_mul (by omega) (by omega)
      omega
  refine aLoop_of (fun st => ∃ (i : Nat) (T : ATab) (nx : Nat), i ≤ l.length ∧ LawOK m s T o X l i nx ∧ st = ⟨183, [(3, .op 0 0 0), (4, .op 1 0 0), (7, .op 2 0 0), (2, sI vals), (8, .osl o), (9, eI (i : Int))], T, nx⟩) (fun st => l.length - slotN st 9) ⟨_, (hWk _ _).trans (weak_env (by (first | ((simp only [envIn, ruW, ASt.get, aget, ↓reduceIte, Nat.reduceLT, Nat.reduceEqDiff, eq_self]) <;> (repeat' apply And.intro) <;> first | (rw [wrapK (by omega)]; done) | (simp; done) | omega) | fail))), 0, T, nx, Nat.zero_le _, hL, rfl⟩ ?_
  clear hL hWk hn6
  clear T nx
  rintro _ ⟨i, T, nx, hi, hL, rfl⟩
  have hB := hL.base
  obtain ⟨b0, b1, b2, b3, b4, b5⟩ := hL.base
  obtain ⟨rows, hrO, hrl, hrj⟩ := hL.out
  by_cases hlt : i < l.length
  case neg =>
    obtain rfl : i = l.length := by omega
    have hv1 := hfs.1
    have hv2 := hfs.2.1
    have hv3 := hfs.2.2
    have hSm := sameS_A s s (by omega) (by omega) (by omega)
    have hss : sameB s s = true := by simp [sameB]
    rw [hss] at hSm
    have p1 : decide (0 < (l.length : Int)) = true := decide_eq_true (by omega)
    have hA : ADet Try.prog 13 (List.map (dref T) [.agg (eSt s), .agg [.osl 3, eI s.opn, eI s.don, .osl 4, .osl 5]]) (val (.bool true)) := by
      have e : List.map (dref T) [.agg (eSt s), .agg [.osl 3, eI s.opn, eI s.don, .osl 4, .osl 5]] = [.agg (eSt s), .agg (eSt s)] := by simp [dref, dref1, b3, b4, b5]
      rw [e]
      exact hSm
    (repeat' (first | simp (maxSteps := 5000000) (implicitDefEqProofs := false) only [ruA, ruB, aEv, aTake, aLoad, aLen, aBin, bin2, ASt.get, aget, ASt.put, ↓reduceIte, Nat.reduceLT, Nat.reduceEqDiff, Nat.reduceAdd, eq_self, ne_eq, aLenM, false_or, tyA_35, tyS_35, tyE_40, hrO, hrl, hlt, p1, b1, b2] | (with_reducible refine aIf_split (fun _ => ?_) (fun _ => ?_)) | (with_reducible refine aSel_split (fun _ => ?_) (fun _ => ?_)) | (with_reducible refine aGd_split (fun _ => ?_) (fun _ => ?_))))
    refine callV hA ?_
    (repeat' (first | simp (maxSteps := 5000000) (implicitDefEqProofs := false) only [ruA, ruB, aEv, ASt.get, aget, ASt.put, aResL, aOne, ↓reduceIte, Nat.reduceLT, Nat.reduceEqDiff, eq_self] | (with_reducible refine aIf_split (fun _ => ?_) (fun _ => ?_)) | (with_reducible refine aSel_split (fun _ => ?_) (fun _ => ?_)) | (with_reducible refine aGd_split (fun _ => ?_) (fun _ => ?_)) | (with_reducible refine aDraw_quiet (by kernel_rfl) ?_) | ((with_reducible apply callV (g := 8)); exact (awake19_A)) | ((with_reducible apply callD (g := 8)); exact (awake19_A))))
  (repeat' (first | simp (maxSteps := 5000000) (implicitDefEqProofs := false) only [ruA, ruB, aEv, aLen, aBin, bin2, ASt.get, aget, ASt.put, ↓reduceIte, Nat.reduceLT, Nat.reduceEqDiff, eq_self, ne_eq, aLenM, false_or, tyE_40, hrO, hrl, hlt] | (with_reducible refine aIf_split (fun _ => ?_) (fun _ => ?_)) | (with_reducible refine aSel_split (fun _ => ?_) (fun _ => ?_)) | (with_reducible refine aGd_split (fun _ => ?_) (fun _ => ?_))))
  obtain ⟨v, hv_⟩ : ∃ v, v = l[i] := ⟨_, rfl⟩
  have hvm : v ∈ l := by rw [hv_]; exact List.getElem_mem hlt
  obtain ⟨q, hq⟩ : ∃ q, q = min v.vals.length vals.length := ⟨_, rfl⟩
  have hq1 : q ≤ v.vals.length := by omega
  have hq2 : q ≤ vals.length := by omega
  have tre : ∀ (l : List Int), ∀ row ∈ eNs l, treeL row := fun l row hr => by
    obtain ⟨x, _, rfl⟩ := List.mem_map.1 hr
    simp [treeL, treeC]
  have hlo := hL.lo
  refine aLoop_of (fun st => ∃ (k : Nat) (T' : ATab), ((k < q ∧ ∃ id, LawW m s T' o X l i nx id v (updV vals v.vals k)) ∨ (k = q ∧ ∃ Y, LawD m s T' o X l i nx v Y ∧ ((Y = .c (.slice none 0 0) ∧ v.vals = []) ∨ Y = sI (updV vals v.vals q)))) ∧ st = ⟨183, [(3, .op 0 0 0), (4, .op 1 0 0), (7, .op 2 0 0), (2, sI vals), (8, .osl o), (9, eI (i : Int)), (10, eI (k : Int))], T', nx⟩) (fun st => q - slotN st 10) ?_ ?_
  · rcases hL.inn i hlt (Nat.le_refl _) with ⟨hX, hv0⟩ | ⟨id, hX, g1, g2, g3, g4, g5⟩
    · have hD := hL.nil hlt hX
      rw [← hv_] at hD hv0
      exact ⟨_, (weak_env (by (first | ((simp only [envIn, ruW, ASt.get, aget, ↓reduceIte, Nat.reduceLT, Nat.reduceEqDiff, eq_self]) <;> (repeat' apply And.intro) <;> first | (rw [wrapK (by omega)]; done) | (simp; done) | omega) | fail))), 0, T, .inr ⟨by rw [hq, hv0]; simp, _, hD, .inl ⟨rfl, hv0⟩⟩, rfl⟩
    · have hW := hL.own hlt hX g1 g2 g3 g4 g5
      rw [← hv_] at hW
      have e0 : updV vals v.vals 0 = v.vals := by simp [updV]
      by_cases hq0 : 0 < q
      · exact ⟨_, (weak_env (by (first | ((simp only [envIn, ruW, ASt.get, aget, ↓reduceIte, Nat.reduceLT, Nat.reduceEqDiff, eq_self]) <;> (repeat' apply And.intro) <;> first | (rw [wrapK (by omega)]; done) | (simp; done) | omega) | fail))), 0, T, .inl ⟨hq0, id, by rw [e0]; exact hW⟩, rfl⟩
      · have hoi : (o = id) = False := by simp [Ne.symm g2]
        refine ⟨_, (weak_frzN id hW.own (tre _)).trans (weak_env (by (first | ((simp only [envIn, ruW, ASt.get, aget, ↓reduceIte, Nat.reduceLT, Nat.reduceEqDiff, eq_self, frzEnv, AV.frz, hoi]) <;> (repeat' apply And.intro) <;> first | (rw [wrapK (by omega)]; done) | (simp; done) | omega) | fail))), 0, _, .inr ⟨by omega, _, hW.frz (fun k => frzN_get k), .inr ?_⟩, rfl⟩
        rw [show q = 0 by omega, e0]
  rintro _ ⟨k, T', hst, rfl⟩
  rcases hst with ⟨hk, id, hW⟩ | ⟨rfl, Y, hD, hY⟩
  · obtain ⟨rows2, r1, r2, r3⟩ := hW.row
    have hown := hW.own
    have hul : (updV vals v.vals k).length = v.vals.length := updV_len (by omega) (by omega)
    have d1 : k < v.vals.length := by omega
    have d2 : k < vals.length := by omega
    have rv : (vals.map fun n => [eI n])[k]?.getD [] = [eI vals[k]] := by simp [d2]
    have hset := updV_set (vals := vals) (v := v.vals) d2 d1
    have hru : (eNs (updV vals v.vals k))[k]?.getD [] = [eI ((updV vals v.vals k)[k]'(by omega))] := by simp [hul, d1]
    (repeat' (first | simp (maxSteps := 5000000) (implicitDefEqProofs := false) only [ruA, ruB, aEv, aTake, aLoad, aField, aIndex, aLen, aBin, bin2, ASt.get, aget, ASt.put, ↓reduceIte, reduceCtorEq, Nat.reduceLT, Nat.reduceEqDiff, eq_self, ne_eq, aLenM, false_or, tyE_23, tyA_23, tyS_23, tyE_40, tyF_43_2, r1, r2, r3, hlt, hown, hul, d1, d2] | (with_reducible refine aIf_split (fun _ => ?_) (fun _ => ?_)) | (with_reducible refine aSel_split (fun _ => ?_) (fun _ => ?_)) | (with_reducible refine aGd_split (fun _ => ?_) (fun _ => ?_))))
    refine aDraw_held [id] [0, 1, 2, 3, 4, 5, 6, 7, 8, 9, 10] (.exec 11 .done) (by kernel_rfl) (by simp [hown]) ?_
    (repeat' (first | simp (maxSteps := 5000000) (implicitDefEqProofs := false) only [ruA, ruB, aEv, aTake, aLoad, aField, aIndex, aBin, bin2, ASt.get, aget, ASt.put, aCells, oneC, oneCL, Value.cells, Value.oneCell', ↓reduceIte, reduceCtorEq, Nat.reduceLT, Nat.reduceEqDiff, eq_self, aExecS, aStoreB, aTakes, aFrom, aMay, tyE_23, tyA_23, tyS_23, tyE_40, tyF_43_2, tyA_2, tyS_2, r1, r2, r3, rv, hlt, hown, hul, d1, d2, hru, hset] | (with_reducible refine aIf_split (fun _ => ?_) (fun _ => ?_)) | (with_reducible refine aSel_split (fun _ => ?_) (fun _ => ?_)) | (with_reducible refine aGd_split (fun _ => ?_) (fun _ => ?_))))
    have hW' := hW.set (updV vals v.vals (k + 1))
    refine ⟨Ne.symm hW.ne, ?_⟩
    have hv10 := hlv v hvm
    by_cases hk2 : k + 1 < q
    · exact roundI (weak_env (by (first | ((simp only [envIn, ruW, ASt.get, aget, ↓reduceIte, Nat.reduceLT, Nat.reduceEqDiff, eq_self]) <;> (repeat' apply And.intro) <;> first | (rw [wrapK (by omega)]; done) | (simp; done) | omega) | fail))) ⟨k + 1, _, .inl ⟨hk2, id, hW'⟩, rfl⟩ (by simp only [slotN, ruW, ASt.get, aget, ↓reduceIte, Nat.reduceLT, Nat.reduceEqDiff, eq_self]; omega)
    · have hoi : (o = id) = False := by simp [Ne.symm hW.ne]
      have hkq : k + 1 = q := by omega
      refine roundI ((weak_frzN id hW'.own (tre _)).trans (weak_env (by (first | ((simp only [envIn, ruW, ASt.get, aget, ↓reduceIte, Nat.reduceLT, Nat.reduceEqDiff, eq_self, frzEnv, AV.frz, hoi]) <;> (repeat' apply And.intro) <;> first | (rw [wrapK (by omega)]; done) | (simp; done) | omega) | fail)))) ⟨k + 1, _, .inr ⟨hkq, _, hW'.frz (fun k => frzN_get k), .inr ?_⟩, rfl⟩ (by simp only [slotN, ruW, ASt.get, aget, ↓reduceIte, Nat.reduceLT, Nat.reduceEqDiff, eq_self]; omega)
      rw [← hkq]
  · obtain ⟨rows2, r1, r2, r3⟩ := hD.row
    obtain ⟨c0, c1, c2, c3, c4, c5⟩ := hD.law.base
    have hul : (updV vals v.vals k).length = v.vals.length := updV_len hq2 hq1
    have hnvok : ∀ x ∈ updV vals v.vals k, ok64 x := updV_ok hv (hlz v hvm)
    have hgood : Good m s ⟨v.event, v.user, updV vals v.vals k⟩ := good_of hck.circle hchk (by rw [← hl]; exact hvm) hul
    have hvs := hlv v hvm
    have hDo0 := do_A m s ⟨v.event, v.user, updV vals v.vals k⟩ hf hfs (by rw [hul]; omega) hc hp hs hnvok ht (fun _ => any_A m s (by omega) (by omega) (by omega) (by omega))
    have hCt := checkR_A m (doM m s ⟨v.event, v.user, updV vals v.vals k⟩).1 (by omega)
    obtain ⟨gis, gchk, gsnd, gdid, gcnt⟩ := hgood
    rw [gis] at hDo0
    rw [gchk] at hCt
    obtain ⟨t1, t2, t3, t4, t5, t6⟩ := chk_iff.1 gchk
    generalize (doM m s ⟨v.event, v.user, updV vals v.vals k⟩).1 = t at *
    have hDo : ADet Try.prog 10 [.agg (eMod m), .agg (eSt s), .agg [eI v.event, eI v.user, Y]] ⟨.tup [.agg (eSt t), eI 0], [], 0⟩ := by
      rcases hY with ⟨rfl, hv0⟩ | rfl
      · have e0 : updV vals v.vals k = [] := List.eq_nil_of_length_eq_zero (by rw [hul, hv0]; rfl)
        rw [e0] at hDo0
        exact hDo0.fits (args := [.agg (eMod m), .agg (eSt s), .agg [eI v.event, eI v.user, .c (.slice none 0 0)]]) ⟨.one (.refl _), .one (.refl _), .agg ⟨.refl _, .refl _, .nil 1, trivial⟩, trivial⟩
      · exact hDo0
    have hCt := hCt (in31_ok (ofB_31 t4)) (in31_ok (ofB_31 t5)) (fun x hx => by
      obtain ⟨j, hj, rfl⟩ := List.getElem_of_mem hx
      have h6 := ((chkAt_iff (by omega)).1 (t6 j (by omega))).1
      simp only [List.getD, List.getElem?_eq_getElem hj, Option.getD_some] at h6
      exact in31_ok (ofB_31 h6))
    have hexit : (Y = .c (.slice none 0 0) ∧ decide ((k : Int) < ((0 : Nat) : Int)) = false) ∨ (Y = sI (updV vals v.vals k) ∧ (decide (k < v.vals.length) = false ∨ (decide (k < v.vals.length) = true ∧ decide (k < vals.length) = false))) := by
      rcases hY with ⟨h1, h2⟩ | h1
      · left
        refine ⟨h1, decide_eq_false (by omega)⟩
      · right
        refine ⟨h1, ?_⟩
        by_cases h : k < v.vals.length
        · exact .inr ⟨decide_eq_true h, decide_eq_false (by omega)⟩
        · exact .inl (decide_eq_false h)
    have ho0 : 0 ≤ s.opn := (ofB_31 ((chk_iff.1 hchk).2.2.2.1)).1
    have ht0 := ofB_31 t4
    unfold in31 at ht0
    unfold ok64 at ho
    have hS1 := sound_A m s (by omega) ho0 (by omega)
    have hS2 := sound_A m t (by omega) ht0.1 (by omega)
    have hsd : soundK m s.opn m.stages.length = false ∨ (soundK m s.opn m.stages.length = true ∧ soundK m t.opn m.stages.length = true) := by
      cases h : soundK m s.opn m.stages.length with
      | false => exact .inl rfl
      | true => exact .inr ⟨rfl, (sound_iff m t.opn).2 (gsnd ((sound_iff m s.opn).1 h))⟩
    have z0 : ((0 : Int) != 0) = false := rfl
    rcases hexit with ⟨rfl, d1⟩ | ⟨rfl, d1 | ⟨d1, d2⟩⟩
    · have d3 : decide (k < 0) = false := decide_eq_false (Nat.not_lt_zero _)
      (repeat' (first | simp (maxSteps := 5000000) (implicitDefEqProofs := false) only [ruA, ruB, aEv, aTake, aLoad, aField, aIndex, aLen, aBin, bin2, ASt.get, aget, ASt.put, ↓reduceIte, reduceCtorEq, Nat.reduceLT, Nat.reduceEqDiff, eq_self, ne_eq, aLenM, false_or, tyE_23, tyA_23, tyS_23, tyE_40, tyF_43_2, r1, r2, r3, hlt, d3] | (with_reducible refine aIf_split (fun _ => ?_) (fun _ => ?_)) | (with_reducible refine aSel_split (fun _ => ?_) (fun _ => ?_)) | (with_reducible refine aGd_split (fun _ => ?_) (fun _ => ?_))))
      refine aDraw_join (fun st' => ∃ T2 : ATab, (LawD m s T2 o X l i (nx + 1) v (.c (.slice none 0 0)) ∧ T2.get nx = some (.box 35 (eSt t))) ∧ st' = ⟨183, [(3, .op 0 0 0), (4, .op 1 0 0), (7, .op 2 0 0), (2, sI vals), (8, .osl o), (9, eI (i : Int)), (11, .op nx 0 0), (12, eI 0)], T2, nx + 1⟩) [] [0, 1, 2, 3, 4, 5] (.two 6 (.take 7 (.take 8 (.take 9 (.exec 10 (.exec 11 (.exec 12 .done)))))) 10 (.exec 6 (.take 7 (.take 8 (.take 9 (.exec 11 (.exec 12 .done))))))) (by kernel_rfl) (by simp []) ?_ ?_
      · (repeat' (first | simp (maxSteps := 5000000) (implicitDefEqProofs := false) only [ruA, ruB, aEv, aTake, aLoad, aIndex, aExtract, ASt.get, aget, ASt.put, aBox, aCells, oneC, oneCL, Value.cells, Value.oneCell', ↓reduceIte, Nat.reduceLT, Nat.reduceEqDiff, Nat.reduceAdd, eq_self, aExecS, aStoreB, aTakes, aTakeE, aFrom, AV.shift, AV.shiftL, aMay, tyA_32, tyS_32, tyA_35, tyS_35, tyZ_35, tyE_40, tyA_43, tyS_43, c0, c1, r1, r2, r3, hlt] | (with_reducible refine aIf_split (fun _ => ?_) (fun _ => ?_)) | (with_reducible refine aSel_split (fun _ => ?_) (fun _ => ?_)) | (with_reducible refine aGd_split (fun _ => ?_) (fun _ => ?_)) | (with_reducible refine aDraw_quiet (by kernel_rfl) ?_) | ((with_reducible apply callT); exact (hDo); exact (.inl (by simp [roL, roA, treeL, treeC]))) | (with_reducible apply And.intro)))
        all_goals first
          | exact aTo_mk (weak_env (by (first | ((simp only [envIn, ruW, ASt.get, aget, ↓reduceIte, Nat.reduceLT, Nat.reduceEqDiff, eq_self]) <;> (repeat' apply And.intro) <;> first | (rw [wrapK (by omega)]; done) | (simp; done) | omega) | fail))) ⟨_, ⟨hD.keep (fun id hid => by simp only [ATab.get_cons]; repeat rw [if_neg (by omega)]) (by omega), by simp only [ATab.get_cons, ↓reduceIte]⟩, rfl⟩
          | trace_state
      · rintro _ ⟨T2, ⟨hD2, hT2⟩, rfl⟩
        obtain ⟨c0, c1, c2, c3, c4, c5⟩ := hD2.law.base
        have hIn : ∀ (st : ASt), (∃ k2 : Nat, k2 ≤ m.events.length ∧ st = ⟨183, [(3, .op 0 0 0), (4, .op 1 0 0), (7, .op 2 0 0), (2, sI vals), (8, .osl o), (9, eI (i : Int)), (11, .op nx 0 0), (13, eI (k2 : Int))], T2, nx + 1⟩) → True := fun _ _ => trivial
        rcases hsd with s1 | ⟨s1, s2⟩
        · rw [s1] at hS1
          (repeat' (first | simp (maxSteps := 5000000) (implicitDefEqProofs := false) only [ruA, ruB, aEv, aTake, aLoad, aBin, bin2, aUn, un1, ASt.get, aget, ASt.put, ↓reduceIte, Nat.reduceLT, Nat.reduceEqDiff, Nat.reduceAdd, eq_self, tyA_32, tyS_32, tyA_35, tyS_35, c0, c1, hT2, z0] | (with_reducible refine aIf_split (fun _ => ?_) (fun _ => ?_)) | (with_reducible refine aSel_split (fun _ => ?_) (fun _ => ?_)) | (with_reducible refine aGd_split (fun _ => ?_) (fun _ => ?_)) | (with_reducible refine aDraw_quiet (by kernel_rfl) ?_) | ((with_reducible apply callV); exact (hCt)) | ((with_reducible apply callD); exact (hCt)) | ((with_reducible apply callV); exact (hS1)) | ((with_reducible apply callD); exact (hS1))))
          refine aLoop_of (fun st => ∃ k2 : Nat, k2 ≤ m.events.length ∧ st = ⟨183, [(3, .op 0 0 0), (4, .op 1 0 0), (7, .op 2 0 0), (2, sI vals), (8, .osl o), (9, eI (i : Int)), (11, .op nx 0 0), (13, eI (k2 : Int))], T2, nx + 1⟩) (fun st => m.events.length - slotN st 13) ⟨_, (weak_env (by (first | ((simp only [envIn, ruW, ASt.get, aget, ↓reduceIte, Nat.reduceLT, Nat.reduceEqDiff, eq_self]) <;> (repeat' apply And.intro) <;> first | (rw [wrapK (by omega)]; done) | (simp; done) | omega) | fail))), 0, Nat.zero_le _, rfl⟩ ?_
          rintro _ ⟨k2, hk2, rfl⟩
          by_cases hlt2 : k2 < m.events.length
          · have l1 : k2 < t.did.length := by omega
            have l2 : k2 < t.cnt.length := by omega
            have l3 : k2 < s.did.length := by have := (chk_iff.1 hchk).2.1; omega
            have l4 : k2 < s.cnt.length := by have := (chk_iff.1 hchk).2.2.1; omega
            have w1 := ((chkAt_iff hlt2).1 (t6 k2 hlt2)).1
            have w2 := ((chkAt_iff hlt2).1 ((chk_iff.1 hchk).2.2.2.2.2 k2 hlt2)).1
            have w3 := gdid k2 l3
            have w4 := gcnt k2 l4
            simp only [List.getD, List.getElem?_eq_getElem l1, List.getElem?_eq_getElem l3, Option.getD_some] at w1 w2 w3
            simp only [List.getD, List.getElem?_eq_getElem l2, List.getElem?_eq_getElem l4, Option.getD_some] at w4
            have hWi := within14_A s.did[k2] t.did[k2] (in31_ok (ofB_31 w2)) (in31_ok (ofB_31 w1)) w3
            have w5 : decide (t.cnt[k2] < s.cnt[k2]) = false := decide_eq_false (by omega)
            (repeat' (first | simp (maxSteps := 5000000) (implicitDefEqProofs := false) only [ruA, ruB, aEv, aTake, aLoad, aField, aIndex, aLen, aBin, bin2, aUn, un1, ASt.get, aget, ASt.put, ↓reduceIte, reduceCtorEq, Nat.reduceLT, Nat.reduceEqDiff, Nat.reduceAdd, Nat.reduceLeDiff, eq_self, ne_eq, dref, aLenM, false_or, tyA_3, tyS_3, tyF_35_3, tyA_33, tyS_33, tyF_35_4, tyE_33, row_at, c1, hT2, l1, l2, l3, l4, w5] | (with_reducible refine aIf_split (fun _ => ?_) (fun _ => ?_)) | (with_reducible refine aSel_split (fun _ => ?_) (fun _ => ?_)) | (with_reducible refine aGd_split (fun _ => ?_) (fun _ => ?_)) | (with_reducible refine aDraw_quiet (by kernel_rfl) ?_) | ((with_reducible apply callV); exact (hWi)) | ((with_reducible apply callD); exact (hWi))))
            all_goals exact roundI (weak_env (by (first | ((simp only [envIn, ruW, ASt.get, aget, ↓reduceIte, Nat.reduceLT, Nat.reduceEqDiff, eq_self]) <;> (repeat' apply And.intro) <;> first | (rw [wrapK (by omega)]; done) | (simp; done) | omega) | fail))) ⟨k2 + 1, by omega, rfl⟩ (by simp only [slotN, ASt.get, aget, ↓reduceIte, Nat.reduceLT, Nat.reduceEqDiff, eq_self]; omega)
          · have l1 : ¬ k2 < t.did.length := by omega
            (repeat' (first | simp (maxSteps := 5000000) (implicitDefEqProofs := false) only [ruA, ruB, aEv, aTake, aLoad, aField, aLen, aBin, bin2, ASt.get, aget, ASt.put, ↓reduceIte, reduceCtorEq, Nat.reduceLT, Nat.reduceEqDiff, Nat.reduceAdd, Nat.reduceLeDiff, eq_self, ne_eq, aLenM, false_or, tyF_35_3, tyA_33, tyS_33, tyE_33, hT2, l1] | (with_reducible refine aIf_split (fun _ => ?_) (fun _ => ?_)) | (with_reducible refine aSel_split (fun _ => ?_) (fun _ => ?_)) | (with_reducible refine aGd_split (fun _ => ?_) (fun _ => ?_))))
            exact roundI (weak_env (by (first | ((simp only [envIn, ruW, ASt.get, aget, ↓reduceIte, Nat.reduceLT, Nat.reduceEqDiff, eq_self]) <;> (repeat' apply And.intro) <;> first | (rw [wrapK (by omega)]; done) | (simp; done) | omega) | fail))) ⟨i + 1, T2, nx + 1, by omega, hD2.law, rfl⟩ (by simp only [slotN, ruW, ASt.get, aget, ↓reduceIte, Nat.reduceLT, Nat.reduceEqDiff, eq_self]; omega)
        · rw [s1] at hS1
          rw [s2] at hS2
          (repeat' (first | simp (maxSteps := 5000000) (implicitDefEqProofs := false) only [ruA, ruB, aEv, aTake, aLoad, aBin, bin2, aUn, un1, ASt.get, aget, ASt.put, ↓reduceIte, Nat.reduceLT, Nat.reduceEqDiff, Nat.reduceAdd, eq_self, tyA_32, tyS_32, tyA_35, tyS_35, c0, c1, hT2, z0] | (with_reducible refine aIf_split (fun _ => ?_) (fun _ => ?_)) | (with_reducible refine aSel_split (fun _ => ?_) (fun _ => ?_)) | (with_reducible refine aGd_split (fun _ => ?_) (fun _ => ?_)) | (with_reducible refine aDraw_quiet (by kernel_rfl) ?_) | ((with_reducible apply callV); exact (hCt)) | ((with_reducible apply callD); exact (hCt)) | ((with_reducible apply callV); exact (hS1)) | ((with_reducible apply callD); exact (hS1)) | ((with_reducible apply callV); exact (hS2)) | ((with_reducible apply callD); exact (hS2))))
          refine aLoop_of (fun st => ∃ k2 : Nat, k2 ≤ m.events.length ∧ st = ⟨183, [(3, .op 0 0 0), (4, .op 1 0 0), (7, .op 2 0 0), (2, sI vals), (8, .osl o), (9, eI (i : Int)), (11, .op nx 0 0), (13, eI (k2 : Int))], T2, nx + 1⟩) (fun st => m.events.length - slotN st 13) ⟨_, (weak_env (by (first | ((simp only [envIn, ruW, ASt.get, aget, ↓reduceIte, Nat.reduceLT, Nat.reduceEqDiff, eq_self]) <;> (repeat' apply And.intro) <;> first | (rw [wrapK (by omega)]; done) | (simp; done) | omega) | fail))), 0, Nat.zero_le _, rfl⟩ ?_
          rintro _ ⟨k2, hk2, rfl⟩
          by_cases hlt2 : k2 < m.events.length
          · have l1 : k2 < t.did.length := by omega
            have l2 : k2 < t.cnt.length := by omega
            have l3 : k2 < s.did.length := by have := (chk_iff.1 hchk).2.1; omega
            have l4 : k2 < s.cnt.length := by have := (chk_iff.1 hchk).2.2.1; omega
            have w1 := ((chkAt_iff hlt2).1 (t6 k2 hlt2)).1
            have w2 := ((chkAt_iff hlt2).1 ((chk_iff.1 hchk).2.2.2.2.2 k2 hlt2)).1
            have w3 := gdid k2 l3
            have w4 := gcnt k2 l4
            simp only [List.getD, List.getElem?_eq_getElem l1, List.getElem?_eq_getElem l3, Option.getD_some] at w1 w2 w3
            simp only [List.getD, List.getElem?_eq_getElem l2, List.getElem?_eq_getElem l4, Option.getD_some] at w4
            have hWi := within14_A s.did[k2] t.did[k2] (in31_ok (ofB_31 w2)) (in31_ok (ofB_31 w1)) w3
            have w5 : decide (t.cnt[k2] < s.cnt[k2]) = false := decide_eq_false (by omega)
            (repeat' (first | simp (maxSteps := 5000000) (implicitDefEqProofs := false) only [ruA, ruB, aEv, aTake, aLoad, aField, aIndex, aLen, aBin, bin2, aUn, un1, ASt.get, aget, ASt.put, ↓reduceIte, reduceCtorEq, Nat.reduceLT, Nat.reduceEqDiff, Nat.reduceAdd, Nat.reduceLeDiff, eq_self, ne_eq, dref, aLenM, false_or, tyA_3, tyS_3, tyF_35_3, tyA_33, tyS_33, tyF_35_4, tyE_33, row_at, c1, hT2, l1, l2, l3, l4, w5] | (with_reducible refine aIf_split (fun _ => ?_) (fun _ => ?_)) | (with_reducible refine aSel_split (fun _ => ?_) (fun _ => ?_)) | (with_reducible refine aGd_split (fun _ => ?_) (fun _ => ?_)) | (with_reducible refine aDraw_quiet (by kernel_rfl) ?_) | ((with_reducible apply callV); exact (hWi)) | ((with_reducible apply callD); exact (hWi))))
            all_goals exact roundI (weak_env (by (first | ((simp only [envIn, ruW, ASt.get, aget, ↓reduceIte, Nat.reduceLT, Nat.reduceEqDiff, eq_self]) <;> (repeat' apply And.intro) <;> first | (rw [wrapK (by omega)]; done) | (simp; done) | omega) | fail))) ⟨k2 + 1, by omega, rfl⟩ (by simp only [slotN, ASt.get, aget, ↓reduceIte, Nat.reduceLT, Nat.reduceEqDiff, eq_self]; omega)
          · have l1 : ¬ k2 < t.did.length := by omega
            (repeat' (first | simp (maxSteps := 5000000) (implicitDefEqProofs := false) only [ruA, ruB, aEv, aTake, aLoad, aField, aLen, aBin, bin2, ASt.get, aget, ASt.put, ↓reduceIte, reduceCtorEq, Nat.reduceLT, Nat.reduceEqDiff, Nat.reduceAdd, Nat.reduceLeDiff, eq_self, ne_eq, aLenM, false_or, tyF_35_3, tyA_33, tyS_33, tyE_33, hT2, l1] | (with_reducible refine aIf_split (fun _ => ?_) (fun _ => ?_)) | (with_reducible refine aSel_split (fun _ => ?_) (fun _ => ?_)) | (with_reducible refine aGd_split (fun _ => ?_) (fun _ => ?_))))
            exact roundI (weak_env (by (first | ((simp only [envIn, ruW, ASt.get, aget, ↓reduceIte, Nat.reduceLT, Nat.reduceEqDiff, eq_self]) <;> (repeat' apply And.intro) <;> first | (rw [wrapK (by omega)]; done) | (simp; done) | omega) | fail))) ⟨i + 1, T2, nx + 1, by omega, hD2.law, rfl⟩ (by simp only [slotN, ruW, ASt.get, aget, ↓reduceIte, Nat.reduceLT, Nat.reduceEqDiff, eq_self]; omega)
    · (repeat' (first | simp (maxSteps := 5000000) (implicitDefEqProofs := false) only [ruA, ruB, aEv, aTake, aLoad, aField, aIndex, aLen, aBin, bin2, ASt.get, aget, ASt.put, ↓reduceIte, reduceCtorEq, Nat.reduceLT, Nat.reduceEqDiff, eq_self, ne_eq, aLenM, false_or, tyE_23, tyA_23, tyS_23, tyE_40, tyF_43_2, r1, r2, r3, hlt, hul, d1] | (with_reducible refine aIf_split (fun _ => ?_) (fun _ => ?_)) | (with_reducible refine aSel_split (fun _ => ?_) (fun _ => ?_)) | (with_reducible refine aGd_split (fun _ => ?_) (fun _ => ?_))))
      refine aDraw_join (fun st' => ∃ T2 : ATab, (LawD m s T2 o X l i (nx + 1) v (sI (updV vals v.vals k)) ∧ T2.get nx = some (.box 35 (eSt t))) ∧ st' = ⟨183, [(3, .op 0 0 0), (4, .op 1 0 0), (7, .op 2 0 0), (2, sI vals), (8, .osl o), (9, eI (i : Int)), (11, .op nx 0 0), (12, eI 0)], T2, nx + 1⟩) [] [0, 1, 2, 3, 4, 5] (.two 6 (.take 7 (.take 8 (.take 9 (.exec 10 (.exec 11 (.exec 12 .done)))))) 10 (.exec 6 (.take 7 (.take 8 (.take 9 (.exec 11 (.exec 12 .done))))))) (by kernel_rfl) (by simp []) ?_ ?_
      · (repeat' (first | simp (maxSteps := 5000000) (implicitDefEqProofs := false) only [ruA, ruB, aEv, aTake, aLoad, aIndex, aExtract, ASt.get, aget, ASt.put, aBox, aCells, oneC, oneCL, Value.cells, Value.oneCell', ↓reduceIte, Nat.reduceLT, Nat.reduceEqDiff, Nat.reduceAdd, eq_self, aExecS, aStoreB, aTakes, aTakeE, aFrom, AV.shift, AV.shiftL, aMay, tyA_32, tyS_32, tyA_35, tyS_35, tyZ_35, tyE_40, tyA_43, tyS_43, c0, c1, r1, r2, r3, hlt] | (with_reducible refine aIf_split (fun _ => ?_) (fun _ => ?_)) | (with_reducible refine aSel_split (fun _ => ?_) (fun _ => ?_)) | (with_reducible refine aGd_split (fun _ => ?_) (fun _ => ?_)) | (with_reducible refine aDraw_quiet (by kernel_rfl) ?_) | ((with_reducible apply callT); exact (hDo); exact (.inl (by simp [roL, roA, treeL, treeC]))) | (with_reducible apply And.intro)))
        all_goals first
          | exact aTo_mk (weak_env (by (first | ((simp only [envIn, ruW, ASt.get, aget, ↓reduceIte, Nat.reduceLT, Nat.reduceEqDiff, eq_self]) <;> (repeat' apply And.intro) <;> first | (rw [wrapK (by omega)]; done) | (simp; done) | omega) | fail))) ⟨_, ⟨hD.keep (fun id hid => by simp only [ATab.get_cons]; repeat rw [if_neg (by omega)]) (by omega), by simp only [ATab.get_cons, ↓reduceIte]⟩, rfl⟩
          | trace_state
      · rintro _ ⟨T2, ⟨hD2, hT2⟩, rfl⟩
        obtain ⟨c0, c1, c2, c3, c4, c5⟩ := hD2.law.base
        have hIn : ∀ (st : ASt), (∃ k2 : Nat, k2 ≤ m.events.length ∧ st = ⟨183, [(3, .op 0 0 0), (4, .op 1 0 0), (7, .op 2 0 0), (2, sI vals), (8, .osl o), (9, eI (i : Int)), (11, .op nx 0 0), (13, eI (k2 : Int))], T2, nx + 1⟩) → True := fun _ _ => trivial
        rcases hsd with s1 | ⟨s1, s2⟩
        · rw [s1] at hS1
          (repeat' (first | simp (maxSteps := 5000000) (implicitDefEqProofs := false) only [ruA, ruB, aEv, aTake, aLoad, aBin, bin2, aUn, un1, ASt.get, aget, ASt.put, ↓reduceIte, Nat.reduceLT, Nat.reduceEqDiff, Nat.reduceAdd, eq_self, tyA_32, tyS_32, tyA_35, tyS_35, c0, c1, hT2, z0] | (with_reducible refine aIf_split (fun _ => ?_) (fun _ => ?_)) | (with_reducible refine aSel_split (fun _ => ?_) (fun _ => ?_)) | (with_reducible refine aGd_split (fun _ => ?_) (fun _ => ?_)) | (with_reducible refine aDraw_quiet (by kernel_rfl) ?_) | ((with_reducible apply callV); exact (hCt)) | ((with_reducible apply callD); exact (hCt)) | ((with_reducible apply callV); exact (hS1)) | ((with_reducible apply callD); exact (hS1))))
          refine aLoop_of (fun st => ∃ k2 : Nat, k2 ≤ m.events.length ∧ st = ⟨183, [(3, .op 0 0 0), (4, .op 1 0 0), (7, .op 2 0 0), (2, sI vals), (8, .osl o), (9, eI (i : Int)), (11, .op nx 0 0), (13, eI (k2 : Int))], T2, nx + 1⟩) (fun st => m.events.length - slotN st 13) ⟨_, (weak_env (by (first | ((simp only [envIn, ruW, ASt.get, aget, ↓reduceIte, Nat.reduceLT, Nat.reduceEqDiff, eq_self]) <;> (repeat' apply And.intro) <;> first | (rw [wrapK (by omega)]; done) | (simp; done) | omega) | fail))), 0, Nat.zero_le _, rfl⟩ ?_
          rintro _ ⟨k2, hk2, rfl⟩
          by_cases hlt2 : k2 < m.events.length
          · have l1 : k2 < t.did.length := by omega
            have l2 : k2 < t.cnt.length := by omega
            have l3 : k2 < s.did.length := by have := (chk_iff.1 hchk).2.1; omega
            have l4 : k2 < s.cnt.length := by have := (chk_iff.1 hchk).2.2.1; omega
            have w1 := ((chkAt_iff hlt2).1 (t6 k2 hlt2)).1
            have w2 := ((chkAt_iff hlt2).1 ((chk_iff.1 hchk).2.2.2.2.2 k2 hlt2)).1
            have w3 := gdid k2 l3
            have w4 := gcnt k2 l4
            simp only [List.getD, List.getElem?_eq_getElem l1, List.getElem?_eq_getElem l3, Option.getD_some] at w1 w2 w3
            simp only [List.getD, List.getElem?_eq_getElem l2, List.getElem?_eq_getElem l4, Option.getD_some] at w4
            have hWi := within14_A s.did[k2] t.did[k2] (in31_ok (ofB_31 w2)) (in31_ok (ofB_31 w1)) w3
            have w5 : decide (t.cnt[k2] < s.cnt[k2]) = false := decide_eq_false (by omega)
            (repeat' (first | simp (maxSteps := 5000000) (implicitDefEqProofs := false) only [ruA, ruB, aEv, aTake, aLoad, aField, aIndex, aLen, aBin, bin2, aUn, un1, ASt.get, aget, ASt.put, ↓reduceIte, reduceCtorEq, Nat.reduceLT, Nat.reduceEqDiff, Nat.reduceAdd, Nat.reduceLeDiff, eq_self, ne_eq, dref, aLenM, false_or, tyA_3, tyS_3, tyF_35_3, tyA_33, tyS_33, tyF_35_4, tyE_33, row_at, c1, hT2, l1, l2, l3, l4, w5] | (with_reducible refine aIf_split (fun _ => ?_) (fun _ => ?_)) | (with_reducible refine aSel_split (fun _ => ?_) (fun _ => ?_)) | (with_reducible refine aGd_split (fun _ => ?_) (fun _ => ?_)) | (with_reducible refine aDraw_quiet (by kernel_rfl) ?_) | ((with_reducible apply callV); exact (hWi)) | ((with_reducible apply callD); exact (hWi))))
            all_goals exact roundI (weak_env (by (first | ((simp only [envIn, ruW, ASt.get, aget, ↓reduceIte, Nat.reduceLT, Nat.reduceEqDiff, eq_self]) <;> (repeat' apply And.intro) <;> first | (rw [wrapK (by omega)]; done) | (simp; done) | omega) | fail))) ⟨k2 + 1, by omega, rfl⟩ (by simp only [slotN, ASt.get, aget, ↓reduceIte, Nat.reduceLT, Nat.reduceEqDiff, eq_self]; omega)
          · have l1 : ¬ k2 < t.did.length := by omega
            (repeat' (first | simp (maxSteps := 5000000) (implicitDefEqProofs := false) only [ruA, ruB, aEv, aTake, aLoad, aField, aLen, aBin, bin2, ASt.get, aget, ASt.put, ↓reduceIte, reduceCtorEq, Nat.reduceLT, Nat.reduceEqDiff, Nat.reduceAdd, Nat.reduceLeDiff, eq_self, ne_eq, aLenM, false_or, tyF_35_3, tyA_33, tyS_33, tyE_33, hT2, l1] | (with_reducible refine aIf_split (fun _ => ?_) (fun _ => ?_)) | (with_reducible refine aSel_split (fun _ => ?_) (fun _ => ?_)) | (with_reducible refine aGd_split (fun _ => ?_) (fun _ => ?_))))
            exact roundI (weak_env (by (first | ((simp only [envIn, ruW, ASt.get, aget, ↓reduceIte, Nat.reduceLT, Nat.reduceEqDiff, eq_self]) <;> (repeat' apply And.intro) <;> first | (rw [wrapK (by omega)]; done) | (simp; done) | omega) | fail))) ⟨i + 1, T2, nx + 1, by omega, hD2.law, rfl⟩ (by simp only [slotN, ruW, ASt.get, aget, ↓reduceIte, Nat.reduceLT, Nat.reduceEqDiff, eq_self]; omega)
        · rw [s1] at hS1
          rw [s2] at hS2
          (repeat' (first | simp (maxSteps := 5000000) (implicitDefEqProofs := false) only [ruA, ruB, aEv, aTake, aLoad, aBin, bin2, aUn, un1, ASt.get, aget, ASt.put, ↓reduceIte, Nat.reduceLT, Nat.reduceEqDiff, Nat.reduceAdd, eq_self, tyA_32, tyS_32, tyA_35, tyS_35, c0, c1, hT2, z0] | (with_reducible refine aIf_split (fun _ => ?_) (fun _ => ?_)) | (with_reducible refine aSel_split (fun _ => ?_) (fun _ => ?_)) | (with_reducible refine aGd_split (fun _ => ?_) (fun _ => ?_)) | (with_reducible refine aDraw_quiet (by kernel_rfl) ?_) | ((with_reducible apply callV); exact (hCt)) | ((with_reducible apply callD); exact (hCt)) | ((with_reducible apply callV); exact (hS1)) | ((with_reducible apply callD); exact (hS1)) | ((with_reducible apply callV); exact (hS2)) | ((with_reducible apply callD); exact (hS2))))
          refine aLoop_of (fun st => ∃ k2 : Nat, k2 ≤ m.events.length ∧ st = ⟨183, [(3, .op 0 0 0), (4, .op 1 0 0), (7, .op 2 0 0), (2, sI vals), (8, .osl o), (9, eI (i : Int)), (11, .op nx 0 0), (13, eI (k2 : Int))], T2, nx + 1⟩) (fun st => m.events.length - slotN st 13) ⟨_, (weak_env (by (first | ((simp only [envIn, ruW, ASt.get, aget, ↓reduceIte, Nat.reduceLT, Nat.reduceEqDiff, eq_self]) <;> (repeat' apply And.intro) <;> first | (rw [wrapK (by omega)]; done) | (simp; done) | omega) | fail))), 0, Nat.zero_le _, rfl⟩ ?_
          rintro _ ⟨k2, hk2, rfl⟩
          by_cases hlt2 : k2 < m.events.length
          · have l1 : k2 < t.did.length := by omega
            have l2 : k2 < t.cnt.length := by omega
            have l3 : k2 < s.did.length := by have := (chk_iff.1 hchk).2.1; omega
            have l4 : k2 < s.cnt.length := by have := (chk_iff.1 hchk).2.2.1; omega
            have w1 := ((chkAt_iff hlt2).1 (t6 k2 hlt2)).1
            have w2 := ((chkAt_iff hlt2).1 ((chk_iff.1 hchk).2.2.2.2.2 k2 hlt2)).1
            have w3 := gdid k2 l3
            have w4 := gcnt k2 l4
            simp only [List.getD, List.getElem?_eq_getElem l1, List.getElem?_eq_getElem l3, Option.getD_some] at w1 w2 w3
            simp only [List.getD, List.getElem?_eq_getElem l2, List.getElem?_eq_getElem l4, Option.getD_some] at w4
            have hWi := within14_A s.did[k2] t.did[k2] (in31_ok (ofB_31 w2)) (in31_ok (ofB_31 w1)) w3
            have w5 : decide (t.cnt[k2] < s.cnt[k2]) = false := decide_eq_false (by omega)
            (repeat' (first | simp (maxSteps := 5000000) (implicitDefEqProofs := false) only [ruA, ruB, aEv, aTake, aLoad, aField, aIndex, aLen, aBin, bin2, aUn, un1, ASt.get, aget, ASt.put, ↓reduceIte, reduceCtorEq, Nat.reduceLT, Nat.reduceEqDiff, Nat.reduceAdd, Nat.reduceLeDiff, eq_self, ne_eq, dref, aLenM, false_or, tyA_3, tyS_3, tyF_35_3, tyA_33, tyS_33, tyF_35_4, tyE_33, row_at, c1, hT2, l1, l2, l3, l4, w5] | (with_reducible refine aIf_split (fun _ => ?_) (fun _ => ?_)) | (with_reducible refine aSel_split (fun _ => ?_) (fun _ => ?_)) | (with_reducible refine aGd_split (fun _ => ?_) (fun _ => ?_)) | (with_reducible refine aDraw_quiet (by kernel_rfl) ?_) | ((with_reducible apply callV); exact (hWi)) | ((with_reducible apply callD); exact (hWi))))
            all_goals exact roundI (weak_env (by (first | ((simp only [envIn, ruW, ASt.get, aget, ↓reduceIte, Nat.reduceLT, Nat.reduceEqDiff, eq_self]) <;> (repeat' apply And.intro) <;> first | (rw [wrapK (by omega)]; done) | (simp; done) | omega) | fail))) ⟨k2 + 1, by omega, rfl⟩ (by simp only [slotN, ASt.get, aget, ↓reduceIte, Nat.reduceLT, Nat.reduceEqDiff, eq_self]; omega)
          · have l1 : ¬ k2 < t.did.length := by omega
            (repeat' (first | simp (maxSteps := 5000000) (implicitDefEqProofs := false) only [ruA, ruB, aEv, aTake, aLoad, aField, aLen, aBin, bin2, ASt.get, aget, ASt.put, ↓reduceIte, reduceCtorEq, Nat.reduceLT, Nat.reduceEqDiff, Nat.reduceAdd, Nat.reduceLeDiff, eq_self, ne_eq, aLenM, false_or, tyF_35_3, tyA_33, tyS_33, tyE_33, hT2, l1] | (with_reducible refine aIf_split (fun _ => ?_) (fun _ => ?_)) | (with_reducible refine aSel_split (fun _ => ?_) (fun _ => ?_)) | (with_reducible refine aGd_split (fun _ => ?_) (fun _ => ?_))))
            exact roundI (weak_env (by (first | ((simp only [envIn, ruW, ASt.get, aget, ↓reduceIte, Nat.reduceLT, Nat.reduceEqDiff, eq_self]) <;> (repeat' apply And.intro) <;> first | (rw [wrapK (by omega)]; done) | (simp; done) | omega) | fail))) ⟨i + 1, T2, nx + 1, by omega, hD2.law, rfl⟩ (by simp only [slotN, ruW, ASt.get, aget, ↓reduceIte, Nat.reduceLT, Nat.reduceEqDiff, eq_self]; omega)
    · (repeat' (first | simp (maxSteps := 5000000) (implicitDefEqProofs := false) only [ruA, ruB, aEv, aTake, aLoad, aField, aIndex, aLen, aBin, bin2, ASt.get, aget, ASt.put, ↓reduceIte, reduceCtorEq, Nat.reduceLT, Nat.reduceEqDiff, eq_self, ne_eq, aLenM, false_or, tyE_23, tyA_23, tyS_23, tyE_40, tyF_43_2, r1, r2, r3, hlt, hul, d1, d2] | (with_reducible refine aIf_split (fun _ => ?_) (fun _ => ?_)) | (with_reducible refine aSel_split (fun _ => ?_) (fun _ => ?_)) | (with_reducible refine aGd_split (fun _ => ?_) (fun _ => ?_))))
      refine aDraw_join (fun st' => ∃ T2 : ATab, (LawD m s T2 o X l i (nx + 1) v (sI (updV vals v.vals k)) ∧ T2.get nx = some (.box 35 (eSt t))) ∧ st' = ⟨183, [(3, .op 0 0 0), (4, .op 1 0 0), (7, .op 2 0 0), (2, sI vals), (8, .osl o), (9, eI (i : Int)), (11, .op nx 0 0), (12, eI 0)], T2, nx + 1⟩) [] [0, 1, 2, 3, 4, 5] (.two 6 (.take 7 (.take 8 (.take 9 (.exec 10 (.exec 11 (.exec 12 .done)))))) 10 (.exec 6 (.take 7 (.take 8 (.take 9 (.exec 11 (.exec 12 .done))))))) (by kernel_rfl) (by simp []) ?_ ?_
      · (repeat' (first | simp (maxSteps := 5000000) (implicitDefEqProofs := false) only [ruA, ruB, aEv, aTake, aLoad, aIndex, aExtract, ASt.get, aget, ASt.put, aBox, aCells, oneC, oneCL, Value.cells, Value.oneCell', ↓reduceIte, Nat.reduceLT, Nat.reduceEqDiff, Nat.reduceAdd, eq_self, aExecS, aStoreB, aTakes, aTakeE, aFrom, AV.shift, AV.shiftL, aMay, tyA_32, tyS_32, tyA_35, tyS_35, tyZ_35, tyE_40, tyA_43, tyS_43, c0, c1, r1, r2, r3, hlt] | (with_reducible refine aIf_split (fun _ => ?_) (fun _ => ?_)) | (with_reducible refine aSel_split (fun _ => ?_) (fun _ => ?_)) | (with_reducible refine aGd_split (fun _ => ?_) (fun _ => ?_)) | (with_reducible refine aDraw_quiet (by kernel_rfl) ?_) | ((with_reducible apply callT); exact (hDo); exact (.inl (by simp [roL, roA, treeL, treeC]))) | (with_reducible apply And.intro)))
        all_goals first
          | exact aTo_mk (weak_env (by (first | ((simp only [envIn, ruW, ASt.get, aget, ↓reduceIte, Nat.reduceLT, Nat.reduceEqDiff, eq_self]) <;> (repeat' apply And.intro) <;> first | (rw [wrapK (by omega)]; done) | (simp; done) | omega) | fail))) ⟨_, ⟨hD.keep (fun id hid => by simp only [ATab.get_cons]; repeat rw [if_neg (by omega)]) (by omega), by simp only [ATab.get_cons, ↓reduceIte]⟩, rfl⟩
          | trace_state
      · rintro _ ⟨T2, ⟨hD2, hT2⟩, rfl⟩
        obtain ⟨c0, c1, c2, c3, c4, c5⟩ := hD2.law.base
        have hIn : ∀ (st : ASt), (∃ k2 : Nat, k2 ≤ m.events.length ∧ st = ⟨183, [(3, .op 0 0 0), (4, .op 1 0 0), (7, .op 2 0 0), (2, sI vals), (8, .osl o), (9, eI (i : Int)), (11, .op nx 0 0), (13, eI (k2 : Int))], T2, nx + 1⟩) → True := fun _ _ => trivial
        rcases hsd with s1 | ⟨s1, s2⟩
        · rw [s1] at hS1
          (repeat' (first | simp (maxSteps := 5000000) (implicitDefEqProofs := false) only [ruA, ruB, aEv, aTake, aLoad, aBin, bin2, aUn, un1, ASt.get, aget, ASt.put, ↓reduceIte, Nat.reduceLT, Nat.reduceEqDiff, Nat.reduceAdd, eq_self, tyA_32, tyS_32, tyA_35, tyS_35, c0, c1, hT2, z0] | (with_reducible refine aIf_split (fun _ => ?_) (fun _ => ?_)) | (with_reducible refine aSel_split (fun _ => ?_) (fun _ => ?_)) | (with_reducible refine aGd_split (fun _ => ?_) (fun _ => ?_)) | (with_reducible refine aDraw_quiet (by kernel_rfl) ?_) | ((with_reducible apply callV); exact (hCt)) | ((with_reducible apply callD); exact (hCt)) | ((with_reducible apply callV); exact (hS1)) | ((with_reducible apply callD); exact (hS1))))
          refine aLoop_of (fun st => ∃ k2 : Nat, k2 ≤ m.events.length ∧ st = ⟨183, [(3, .op 0 0 0), (4, .op 1 0 0), (7, .op 2 0 0), (2, sI vals), (8, .osl o), (9, eI (i : Int)), (11, .op nx 0 0), (13, eI (k2 : Int))], T2, nx + 1⟩) (fun st => m.events.length - slotN st 13) ⟨_, (weak_env (by (first | ((simp only [envIn, ruW, ASt.get, aget, ↓reduceIte, Nat.reduceLT, Nat.reduceEqDiff, eq_self]) <;> (repeat' apply And.intro) <;> first | (rw [wrapK (by omega)]; done) | (simp; done) | omega) | fail))), 0, Nat.zero_le _, rfl⟩ ?_
          rintro _ ⟨k2, hk2, rfl⟩
          by_cases hlt2 : k2 < m.events.length
          · have l1 : k2 < t.did.length := by omega
            have l2 : k2 < t.cnt.length := by omega
            have l3 : k2 < s.did.length := by have := (chk_iff.1 hchk).2.1; omega
            have l4 : k2 < s.cnt.length := by have := (chk_iff.1 hchk).2.2.1; omega
            have w1 := ((chkAt_iff hlt2).1 (t6 k2 hlt2)).1
            have w2 := ((chkAt_iff hlt2).1 ((chk_iff.1 hchk).2.2.2.2.2 k2 hlt2)).1
            have w3 := gdid k2 l3
            have w4 := gcnt k2 l4
            simp only [List.getD, List.getElem?_eq_getElem l1, List.getElem?_eq_getElem l3, Option.getD_some] at w1 w2 w3
            simp only [List.getD, List.getElem?_eq_getElem l2, List.getElem?_eq_getElem l4, Option.getD_some] at w4
            have hWi := within14_A s.did[k2] t.did[k2] (in31_ok (ofB_31 w2)) (in31_ok (ofB_31 w1)) w3
            have w5 : decide (t.cnt[k2] < s.cnt[k2]) = false := decide_eq_false (by omega)
            (repeat' (first | simp (maxSteps := 5000000) (implicitDefEqProofs := false) only [ruA, ruB, aEv, aTake, aLoad, aField, aIndex, aLen, aBin, bin2, aUn, un1, ASt.get, aget, ASt.put, ↓reduceIte, reduceCtorEq, Nat.reduceLT, Nat.reduceEqDiff, Nat.reduceAdd, Nat.reduceLeDiff, eq_self, ne_eq, dref, aLenM, false_or, tyA_3, tyS_3, tyF_35_3, tyA_33, tyS_33, tyF_35_4, tyE_33, row_at, c1, hT2, l1, l2, l3, l4, w5] | (with_reducible refine aIf_split (fun _ => ?_) (fun _ => ?_)) | (with_reducible refine aSel_split (fun _ => ?_) (fun _ => ?_)) | (with_reducible refine aGd_split (fun _ => ?_) (fun _ => ?_)) | (with_reducible refine aDraw_quiet (by kernel_rfl) ?_) | ((with_reducible apply callV); exact (hWi)) | ((with_reducible apply callD); exact (hWi))))
            all_goals exact roundI (weak_env (by (first | ((simp only [envIn, ruW, ASt.get, aget, ↓reduceIte, Nat.reduceLT, Nat.reduceEqDiff, eq_self]) <;> (repeat' apply And.intro) <;> first | (rw [wrapK (by omega)]; done) | (simp; done) | omega) | fail))) ⟨k2 + 1, by omega, rfl⟩ (by simp only [slotN, ASt.get, aget, ↓reduceIte, Nat.reduceLT, Nat.reduceEqDiff, eq_self]; omega)
          · have l1 : ¬ k2 < t.did.length := by omega
            (repeat' (first | simp (maxSteps := 5000000) (implicitDefEqProofs := false) only [ruA, ruB, aEv, aTake, aLoad, aField, aLen, aBin, bin2, ASt.get, aget, ASt.put, ↓reduceIte, reduceCtorEq, Nat.reduceLT, Nat.reduceEqDiff, Nat.reduceAdd, Nat.reduceLeDiff, eq_self, ne_eq, aLenM, false_or, tyF_35_3, tyA_33, tyS_33, tyE_33, hT2, l1] | (with_reducible refine aIf_split (fun _ => ?_) (fun _ => ?_)) | (with_reducible refine aSel_split (fun _ => ?_) (fun _ => ?_)) | (with_reducible refine aGd_split (fun _ => ?_) (fun _ => ?_))))
            exact roundI (weak_env (by (first | ((simp only [envIn, ruW, ASt.get, aget, ↓reduceIte, Nat.reduceLT, Nat.reduceEqDiff, eq_self]) <;> (repeat' apply And.intro) <;> first | (rw [wrapK (by omega)]; done) | (simp; done) | omega) | fail))) ⟨i + 1, T2, nx + 1, by omega, hD2.law, rfl⟩ (by simp only [slotN, ruW, ASt.get, aget, ↓reduceIte, Nat.reduceLT, Nat.reduceEqDiff, eq_self]; omega)
        · rw [s1] at hS1
          rw [s2] at hS2
          (repeat' (first | simp (maxSteps := 5000000) (implicitDefEqProofs := false) only [ruA, ruB, aEv, aTake, aLoad, aBin, bin2, aUn, un1, ASt.get, aget, ASt.put, ↓reduceIte, Nat.reduceLT, Nat.reduceEqDiff, Nat.reduceAdd, eq_self, tyA_32, tyS_32, tyA_35, tyS_35, c0, c1, hT2, z0] | (with_reducible refine aIf_split (fun _ => ?_) (fun _ => ?_)) | (with_reducible refine aSel_split (fun _ => ?_) (fun _ => ?_)) | (with_reducible refine aGd_split (fun _ => ?_) (fun _ => ?_)) | (with_reducible refine aDraw_quiet (by kernel_rfl) ?_) | ((with_reducible apply callV); exact (hCt)) | ((with_reducible apply callD); exact (hCt)) | ((with_reducible apply callV); exact (hS1)) | ((with_reducible apply callD); exact (hS1)) | ((with_reducible apply callV); exact (hS2)) | ((with_reducible apply callD); exact (hS2))))
          refine aLoop_of (fun st => ∃ k2 : Nat, k2 ≤ m.events.length ∧ st = ⟨183, [(3, .op 0 0 0), (4, .op 1 0 0), (7, .op 2 0 0), (2, sI vals), (8, .osl o), (9, eI (i : Int)), (11, .op nx 0 0), (13, eI (k2 : Int))], T2, nx + 1⟩) (fun st => m.events.length - slotN st 13) ⟨_, (weak_env (by (first | ((simp only [envIn, ruW, ASt.get, aget, ↓reduceIte, Nat.reduceLT, Nat.reduceEqDiff, eq_self]) <;> (repeat' apply And.intro) <;> first | (rw [wrapK (by omega)]; done) | (simp; done) | omega) | fail))), 0, Nat.zero_le _, rfl⟩ ?_
          rintro _ ⟨k2, hk2, rfl⟩
          by_cases hlt2 : k2 < m.events.length
          · have l1 : k2 < t.did.length := by omega
            have l2 : k2 < t.cnt.length := by omega
            have l3 : k2 < s.did.length := by have := (chk_iff.1 hchk).2.1; omega
            have l4 : k2 < s.cnt.length := by have := (chk_iff.1 hchk).2.2.1; omega
            have w1 := ((chkAt_iff hlt2).1 (t6 k2 hlt2)).1
            have w2 := ((chkAt_iff hlt2).1 ((chk_iff.1 hchk).2.2.2.2.2 k2 hlt2)).1
            have w3 := gdid k2 l3
            have w4 := gcnt k2 l4
            simp only [List.getD, List.getElem?_eq_getElem l1, List.getElem?_eq_getElem l3, Option.getD_some] at w1 w2 w3
            simp only [List.getD, List.getElem?_eq_getElem l2, List.getElem?_eq_getElem l4, Option.getD_some] at w4
            have hWi := within14_A s.did[k2] t.did[k2] (in31_ok (ofB_31 w2)) (in31_ok (ofB_31 w1)) w3
            have w5 : decide (t.cnt[k2] < s.cnt[k2]) = false := decide_eq_false (by omega)
            (repeat' (first | simp (maxSteps := 5000000) (implicitDefEqProofs := false) only [ruA, ruB, aEv, aTake, aLoad, aField, aIndex, aLen, aBin, bin2, aUn, un1, ASt.get, aget, ASt.put, ↓reduceIte, reduceCtorEq, Nat.reduceLT, Nat.reduceEqDiff, Nat.reduceAdd, Nat.reduceLeDiff, eq_self, ne_eq, dref, aLenM, false_or, tyA_3, tyS_3, tyF_35_3, tyA_33, tyS_33, tyF_35_4, tyE_33, row_at, c1, hT2, l1, l2, l3, l4, w5] | (with_reducible refine aIf_split (fun _ => ?_) (fun _ => ?_)) | (with_reducible refine aSel_split (fun _ => ?_) (fun _ => ?_)) | (with_reducible refine aGd_split (fun _ => ?_) (fun _ => ?_)) | (with_reducible refine aDraw_quiet (by kernel_rfl) ?_) | ((with_reducible apply callV); exact (hWi)) | ((with_reducible apply callD); exact (hWi))))
            all_goals exact roundI (weak_env (by (first | ((simp only [envIn, ruW, ASt.get, aget, ↓reduceIte, Nat.reduceLT, Nat.reduceEqDiff, eq_self]) <;> (repeat' apply And.intro) <;> first | (rw [wrapK (by omega)]; done) | (simp; done) | omega) | fail))) ⟨k2 + 1, by omega, rfl⟩ (by simp only [slotN, ASt.get, aget, ↓reduceIte, Nat.reduceLT, Nat.reduceEqDiff, eq_self]; omega)
          · have l1 : ¬ k2 < t.did.length := by omega
            (repeat' (first | simp (maxSteps := 5000000) (implicitDefEqProofs := false) only [ruA, ruB, aEv, aTake, aLoad, aField, aLen, aBin, bin2, ASt.get, aget, ASt.put, ↓reduceIte, reduceCtorEq, Nat.reduceLT, Nat.reduceEqDiff, Nat.reduceAdd, Nat.reduceLeDiff, eq_self, ne_eq, aLenM, false_or, tyF_35_3, tyA_33, tyS_33, tyE_33, hT2, l1] | (with_reducible refine aIf_split (fun _ => ?_) (fun _ => ?_)) | (with_reducible refine aSel_split (fun _ => ?_) (fun _ => ?_)) | (with_reducible refine aGd_split (fun _ => ?_) (fun _ => ?_))))
            exact roundI (weak_env (by (first | ((simp only [envIn, ruW, ASt.get, aget, ↓reduceIte, Nat.reduceLT, Nat.reduceEqDiff, eq_self]) <;> (repeat' apply And.intro) <;> first | (rw [wrapK (by omega)]; done) | (simp; done) | omega) | fail))) ⟨i + 1, T2, nx + 1, by omega, hD2.law, rfl⟩ (by simp only [slotN, ruW, ASt.get, aget, ↓reduceIte, Nat.reduceLT, Nat.reduceEqDiff, eq_self]; omega)
end
section
open Go.RowKit

theorem opensInt : Opens Try.prog 3 (intR .i64) := opens_int Try.underlying3
theorem opensI64 : Opens Try.prog 2 (intR .i64) := opens_int Try.underlying2
def valR : Rep (Int × Int × Unit) := pairR (intR .i64) (pairR (intR .i64) nilR)
theorem opensVal : Opens Try.prog 97 valR :=
  opens_struct Try.underlying97 (by kernel_rfl) (opensF_cons (by kernel_rfl) (by kernel_rfl) opensInt (opensF_cons (by kernel_rfl) (by kernel_rfl) opensI64 (opensF_nil _ _)))
def instP : Rep (Int × (Int × Int × Unit) × (Int × Int × Unit) × Int × Int × Unit) := pairR (intR .i64) (pairR valR (pairR valR (pairR (intR .i64) (pairR (intR .i64) nilR))))
theorem opensInstP : Opens Try.prog 99 instP :=
  opens_struct Try.underlying99 (by kernel_rfl) (opensF_cons (by kernel_rfl) (by kernel_rfl) opensInt (opensF_cons (by kernel_rfl) (by kernel_rfl) opensVal (opensF_cons (by kernel_rfl) (by kernel_rfl) opensVal (opensF_cons (by kernel_rfl) (by kernel_rfl) opensInt (opensF_cons (by kernel_rfl) (by kernel_rfl) opensInt (opensF_nil _ _))))))
theorem opensInst : Opens Try.prog 99 instR := opens_map opensInstP (fun p => ⟨p.1, p.2.1.1, p.2.1.2.1, p.2.2.1.1, p.2.2.1.2.1, p.2.2.2.1, p.2.2.2.2.1⟩) (by
  rintro w S cs ⟨op, ⟨la, ln, _⟩, ⟨ra, rn, _⟩, n, u, _⟩ h
  obtain ⟨c0, q0, e0, ⟨a0, h0⟩, h'⟩ := pair_inv h
  obtain ⟨c1, q1, e1, h1, h''⟩ := pair_inv h'
  obtain ⟨c2, q2, e2, h2, h3⟩ := pair_inv h''
  obtain ⟨c3, q3, e3, ⟨a3, h3'⟩, h4⟩ := pair_inv h3
  obtain ⟨c4, q4, e4, ⟨a4, h4'⟩, h5⟩ := pair_inv h4
  have h5 : q4 = [] := h5
  obtain ⟨d0, k0, f0, ⟨b0, g0⟩, m0⟩ := pair_inv h1
  obtain ⟨d1, k1, f1, ⟨b1, g1⟩, m1⟩ := pair_inv m0
  have m1 : k1 = [] := m1
  obtain ⟨d2, k2, f2, ⟨b2, g2⟩, m2⟩ := pair_inv h2
  obtain ⟨d3, k3, f3, ⟨b3, g3⟩, m3⟩ := pair_inv m2
  have m3 : k3 = [] := m3
  refine ⟨?_, wf_i64 h0, wf_i64 g0, wf_i64 g1, wf_i64 g2, wf_i64 g3, wf_i64 h3', wf_i64 h4'⟩
  rw [e0, e1, e2, e3, e4, h5, a0, f0, f1, m1, b0, b1, f2, f3, m3, b2, b3, a3, a4]
  rfl)
theorem opensInsts : Opens Try.prog 50 (sliceR instR) := opens_slice Try.underlying50 (by kernel_rfl) (by decide) opensInst
theorem opensI64s : Opens Try.prog 23 (sliceR (intR .i64)) := opens_slice Try.underlying23 (by kernel_rfl) (by decide) opensI64
theorem opensIntsE : Opens Try.prog 33 (sliceR (intR .i64)) := opens_slice Try.underlying33 (by kernel_rfl) (by decide) opensInt
def stP : Rep (List Int × Int × Int × List Int × List Int × Unit) := pairR (sliceR (intR .i64)) (pairR (intR .i64) (pairR (intR .i64) (pairR (sliceR (intR .i64)) (pairR (sliceR (intR .i64)) nilR))))
theorem opensStP : Opens Try.prog 35 stP :=
  opens_struct Try.underlying35 (by kernel_rfl) (opensF_cons (by kernel_rfl) (by kernel_rfl) opensI64s (opensF_cons (by kernel_rfl) (by kernel_rfl) opensInt (opensF_cons (by kernel_rfl) (by kernel_rfl) opensInt (opensF_cons (by kernel_rfl) (by kernel_rfl) opensIntsE (opensF_cons (by kernel_rfl) (by kernel_rfl) opensIntsE (opensF_nil _ _))))))
/-- a state's cells -/
structure StAt (w : World) (S : Nat → Prop) (cs : Array Value) (s : St) (vv dv cv : Value) : Prop where
  cells : cs = #[vv, .int .i64 s.opn, .int .i64 s.don, dv, cv]
  vals : (sliceR (intR .i64)).one w S vv s.vals
  did : (sliceR (intR .i64)).one w S dv s.did
  cnt : (sliceR (intR .i64)).one w S cv s.cnt
  opn : ok64 s.opn
  don : ok64 s.don
theorem open_st {H : Type} {enc : TypeId × Value → H} {w : World} {fuel : Nat} {cs : Array Value} {x : DataW H × List MemPlace} (h : DataW.trod enc Try.prog w 0 (fun _ => true) true fuel 35 cs.toList = some x) :
    ∃ s vv dv cv, StAt w (fun b => b < w.heap.size) cs s vv dv cv := by
  obtain ⟨⟨vals, o, d, did, cnt, _⟩, h⟩ := opensStP H enc w fuel _ _ h
  obtain ⟨c0, q0, e0, h0, h⟩ := pair_inv h
  obtain ⟨c1, q1, e1, ⟨e1', h1⟩, h⟩ := pair_inv h
  obtain ⟨c2, q2, e2, ⟨e2', h2⟩, h⟩ := pair_inv h
  obtain ⟨c3, q3, e3, h3, h⟩ := pair_inv h
  obtain ⟨c4, q4, e4, h4, h⟩ := pair_inv h
  obtain rfl : q4 = [] := h
  obtain ⟨vv, rfl, h0⟩ := one_inv (r := sliceR (intR .i64)) rfl h0
  obtain ⟨dv, rfl, h3⟩ := one_inv (r := sliceR (intR .i64)) rfl h3
  obtain ⟨cv, rfl, h4⟩ := one_inv (r := sliceR (intR .i64)) rfl h4
  refine ⟨⟨vals, o, d, did, cnt⟩, vv, dv, cv, ?_, h0, h3, h4, wf_i64 h1, wf_i64 h2⟩
  apply Array.ext'
  rw [e0, e1, e2, e3, e4, e1', e2']
  rfl
end
section
open Go.RowKit

theorem opensStr : Opens Try.prog 9 strR := opens_string Try.underlying9
theorem opensBoolM : Opens Try.prog 4 boolR := opens_bool Try.underlying4
theorem opensNameInt {t : TypeId} (h : Opens Try.prog t (pairR strR (pairR (intR .i64) nilR))) : Opens Try.prog t nameIntR := opens_map h (fun p => (p.1, p.2.1)) (by
  rintro w S cs ⟨s, n, _⟩ h
  obtain ⟨c0, q0, e0, ⟨a0, h0⟩, h⟩ := pair_inv h
  obtain ⟨c1, q1, e1, ⟨a1, h1⟩, h⟩ := pair_inv h
  have h : q1 = [] := h
  exact ⟨by rw [e0, e1, a0, a1, h]; rfl, h0, wf_i64 h1⟩)
theorem opensStage : Opens Try.prog 67 nameIntR := opensNameInt (opens_struct Try.underlying67 (by kernel_rfl) (opensF_cons (by kernel_rfl) (by kernel_rfl) opensStr (opensF_cons (by kernel_rfl) (by kernel_rfl) opensInt (opensF_nil _ _))))
theorem opensRole : Opens Try.prog 65 nameIntR := opensNameInt (opens_struct Try.underlying65 (by kernel_rfl) (opensF_cons (by kernel_rfl) (by kernel_rfl) opensStr (opensF_cons (by kernel_rfl) (by kernel_rfl) opensInt (opensF_nil _ _))))
theorem opensSod : Opens Try.prog 80 intIntR := opens_map (r := pairR (intR .i64) (pairR (intR .i64) nilR)) (opens_struct Try.underlying80 (by kernel_rfl) (opensF_cons (by kernel_rfl) (by kernel_rfl) opensInt (opensF_cons (by kernel_rfl) (by kernel_rfl) opensInt (opensF_nil _ _)))) (fun p => (p.1, p.2.1)) (by
  rintro w S cs ⟨s, n, _⟩ h
  obtain ⟨c0, q0, e0, ⟨a0, h0⟩, h⟩ := pair_inv h
  obtain ⟨c1, q1, e1, ⟨a1, h1⟩, h⟩ := pair_inv h
  have h : q1 = [] := h
  exact ⟨by rw [e0, e1, a0, a1, h]; rfl, wf_i64 h0, wf_i64 h1⟩)
theorem opensSentry : Opens Try.prog 88 sentryR := opens_map (r := pairR boolR (pairR (intR .i64) nilR)) (opens_struct Try.underlying88 (by kernel_rfl) (opensF_cons (by kernel_rfl) (by kernel_rfl) opensBoolM (opensF_cons (by kernel_rfl) (by kernel_rfl) opensInt (opensF_nil _ _)))) (fun p => (p.1, p.2.1)) (by
  rintro w S cs ⟨s, n, _⟩ h
  obtain ⟨c0, q0, e0, a0, h⟩ := pair_inv h
  have a0 : c0 = [.bool s] := a0
  obtain ⟨c1, q1, e1, ⟨a1, h1⟩, h⟩ := pair_inv h
  have h : q1 = [] := h
  exact ⟨by rw [e0, e1, a0, a1, h]; rfl, wf_i64 h1⟩)
theorem opensGuard : Opens Try.prog 52 gdR := opens_map (r := pairR (intR .i64) (pairR (intR .i64) (pairR (sliceR instR) nilR))) (opens_struct Try.underlying52 (by kernel_rfl) (opensF_cons (by kernel_rfl) (by kernel_rfl) opensInt (opensF_cons (by kernel_rfl) (by kernel_rfl) opensInt (opensF_cons (by kernel_rfl) (by kernel_rfl) opensInsts (opensF_nil _ _))))) (fun p => ⟨p.1, p.2.1, p.2.2.1⟩) (by
  rintro w S cs ⟨s, n, l, _⟩ h
  obtain ⟨c0, q0, e0, ⟨a0, h0⟩, h⟩ := pair_inv h
  obtain ⟨c1, q1, e1, ⟨a1, h1⟩, h⟩ := pair_inv h
  obtain ⟨c2, q2, e2, h2, h⟩ := pair_inv h
  have h : q2 = [] := h
  obtain ⟨cv, rfl, h2⟩ := one_inv (r := sliceR instR) rfl h2
  exact ⟨cv, by rw [e0, e1, e2, a0, a1, h]; rfl, h2, wf_i64 h0, wf_i64 h1⟩)
theorem opensMile : Opens Try.prog 54 mlR := opens_map (r := pairR strR (pairR (intR .i64) (pairR (intR .i64) (pairR (sliceR instR) (pairR boolR nilR))))) (opens_struct Try.underlying54 (by kernel_rfl) (opensF_cons (by kernel_rfl) (by kernel_rfl) opensStr (opensF_cons (by kernel_rfl) (by kernel_rfl) opensInt (opensF_cons (by kernel_rfl) (by kernel_rfl) opensInt (opensF_cons (by kernel_rfl) (by kernel_rfl) opensInsts (opensF_cons (by kernel_rfl) (by kernel_rfl) opensBoolM (opensF_nil _ _))))))) (fun p => ⟨p.1, p.2.1, p.2.2.1, p.2.2.2.1, p.2.2.2.2.1⟩) (by
  rintro w S cs ⟨nm, s, n, l, b, _⟩ h
  obtain ⟨c9, q9, e9, ⟨a9, h9⟩, h⟩ := pair_inv h
  obtain ⟨c0, q0, e0, ⟨a0, h0⟩, h⟩ := pair_inv h
  obtain ⟨c1, q1, e1, ⟨a1, h1⟩, h⟩ := pair_inv h
  obtain ⟨c2, q2, e2, h2, h⟩ := pair_inv h
  obtain ⟨c3, q3, e3, a3, h⟩ := pair_inv h
  have a3 : c3 = [.bool b] := a3
  have h : q3 = [] := h
  obtain ⟨cv, rfl, h2⟩ := one_inv (r := sliceR instR) rfl h2
  exact ⟨cv, by rw [e9, e0, e1, e2, e3, a9, a0, a1, a3, h]; rfl, h2, wf_i64 h0, wf_i64 h1, h9⟩)
theorem opensEvent : Opens Try.prog 56 evR := opens_map (r := pairR strR (pairR (intR .i64) (pairR (intR .i64) (pairR (sliceR (intR .i64)) (pairR (intR .i64) nilR))))) (opens_struct Try.underlying56 (by kernel_rfl) (opensF_cons (by kernel_rfl) (by kernel_rfl) opensStr (opensF_cons (by kernel_rfl) (by kernel_rfl) opensInt (opensF_cons (by kernel_rfl) (by kernel_rfl) opensInt (opensF_cons (by kernel_rfl) (by kernel_rfl) opensIntsE (opensF_cons (by kernel_rfl) (by kernel_rfl) opensInt (opensF_nil _ _))))))) (fun p => ⟨p.1, p.2.1, p.2.2.1, p.2.2.2.1, p.2.2.2.2.1⟩) (by
  rintro w S cs ⟨nm, s, n, l, b, _⟩ h
  obtain ⟨c9, q9, e9, ⟨a9, h9⟩, h⟩ := pair_inv h
  obtain ⟨c0, q0, e0, ⟨a0, h0⟩, h⟩ := pair_inv h
  obtain ⟨c1, q1, e1, ⟨a1, h1⟩, h⟩ := pair_inv h
  obtain ⟨c2, q2, e2, h2, h⟩ := pair_inv h
  obtain ⟨c3, q3, e3, ⟨a3, h3⟩, h⟩ := pair_inv h
  have h : q3 = [] := h
  obtain ⟨cv, rfl, h2⟩ := one_inv (r := sliceR (intR .i64)) rfl h2
  exact ⟨cv, by rw [e9, e0, e1, e2, e3, a9, a0, a1, a3, h]; rfl, h2, wf_i64 h0, wf_i64 h1, wf_i64 h3, h9⟩)
abbrev modP := pairR (sliceR strR) (pairR (sliceR (intR .i64)) (pairR (sliceR strR) (pairR (sliceR nameIntR) (pairR (sliceR nameIntR) (pairR (sliceR evR) (pairR (sliceR gdR) (pairR (sliceR mlR) (pairR (sliceR intIntR) (pairR (sliceR sentryR) nilR)))))))))
set_option maxRecDepth 100000 in
theorem opensModP : Opens Try.prog 32 modP := opens_struct Try.underlying32 (by kernel_rfl) (opensF_cons (by kernel_rfl) (by kernel_rfl) (opens_slice Try.underlying22 (by kernel_rfl) (by decide) opensStr) (opensF_cons (by kernel_rfl) (by kernel_rfl) (opens_slice Try.underlying23 (by kernel_rfl) (by decide) opensI64) (opensF_cons (by kernel_rfl) (by kernel_rfl) (opens_slice Try.underlying22 (by kernel_rfl) (by decide) opensStr) (opensF_cons (by kernel_rfl) (by kernel_rfl) (opens_slice Try.underlying24 (by kernel_rfl) (by decide) opensRole) (opensF_cons (by kernel_rfl) (by kernel_rfl) (opens_slice Try.underlying25 (by kernel_rfl) (by decide) opensStage) (opensF_cons (by kernel_rfl) (by kernel_rfl) (opens_slice Try.underlying26 (by kernel_rfl) (by decide) opensEvent) (opensF_cons (by kernel_rfl) (by kernel_rfl) (opens_slice Try.underlying27 (by kernel_rfl) (by decide) opensGuard) (opensF_cons (by kernel_rfl) (by kernel_rfl) (opens_slice Try.underlying28 (by kernel_rfl) (by decide) opensMile) (opensF_cons (by kernel_rfl) (by kernel_rfl) (opens_slice Try.underlying29 (by kernel_rfl) (by decide) opensSod) (opensF_cons (by kernel_rfl) (by kernel_rfl) (opens_slice Try.underlying30 (by kernel_rfl) (by decide) opensSentry) (opensF_nil _ _)))))))))))
theorem open_mod {H : Type} {enc : TypeId × Value → H} {w : World} {fuel : Nat} {cs : Array Value} {x : DataW H × List MemPlace} (h : DataW.trod enc Try.prog w 0 (fun _ => true) true fuel 32 cs.toList = some x) :
    ∃ (V : MV) (m : Mod), cs = V.cells ∧ ModI w V m := by
  obtain ⟨⟨attrs, inits, users, roles, stages, events, guards, miles, sods, order, _⟩, h⟩ := opensModP H enc w fuel _ _ h
  obtain ⟨c0, q0, e0, h0, h⟩ := pair_inv h
  obtain ⟨c1, q1, e1, h1, h⟩ := pair_inv h
  obtain ⟨c2, q2, e2, h2, h⟩ := pair_inv h
  obtain ⟨c3, q3, e3, h3, h⟩ := pair_inv h
  obtain ⟨c4, q4, e4, h4, h⟩ := pair_inv h
  obtain ⟨c5, q5, e5, h5, h⟩ := pair_inv h
  obtain ⟨c6, q6, e6, h6, h⟩ := pair_inv h
  obtain ⟨c7, q7, e7, h7, h⟩ := pair_inv h
  obtain ⟨c8, q8, e8, h8, h⟩ := pair_inv h
  obtain ⟨c9, q9, e9, h9, h⟩ := pair_inv h
  obtain rfl : q9 = [] := h
  obtain ⟨v0, rfl, h0⟩ := one_inv (r := sliceR strR) rfl h0
  obtain ⟨v1, rfl, h1⟩ := one_inv (r := sliceR (intR .i64)) rfl h1
  obtain ⟨v2, rfl, h2⟩ := one_inv (r := sliceR strR) rfl h2
  obtain ⟨v3, rfl, h3⟩ := one_inv (r := sliceR nameIntR) rfl h3
  obtain ⟨v4, rfl, h4⟩ := one_inv (r := sliceR nameIntR) rfl h4
  obtain ⟨v5, rfl, h5⟩ := one_inv (r := sliceR evR) rfl h5
  obtain ⟨v6, rfl, h6⟩ := one_inv (r := sliceR gdR) rfl h6
  obtain ⟨v7, rfl, h7⟩ := one_inv (r := sliceR mlR) rfl h7
  obtain ⟨v8, rfl, h8⟩ := one_inv (r := sliceR intIntR) rfl h8
  obtain ⟨v9, rfl, h9⟩ := one_inv (r := sliceR sentryR) rfl h9
  refine ⟨⟨v0, v1, v2, v3, v4, v5, v6, v7, v8, v9⟩, ⟨attrs, inits, users, roles, stages, events, guards, miles, sods, order⟩, ?_, ⟨h0, h1, h2, h3, h4, h5, h6, h7, h8, h9⟩⟩
  apply Array.ext'
  rw [e0, e1, e2, e3, e4, e5, e6, e7, e8, e9]
  rfl
end
end Go.Proofs.Ytcindbpnaicemaa
