/-
  Parts of the proof: SoE, SoF, Y1, Y2, Y3, SoH.
-/
import Derived.Test.YtbahakgmbceflaaGreatNsm7
set_option linter.unusedVariables false
set_option linter.unusedSimpArgs false
namespace Go.Proofs.YtbahakgmbceflaaGreat
section
open Go.RowKit
theorem use_with {R G : Prop} (h : R → G) (hR : R) : G := h hR
set_option maxRecDepth 100000 in
set_option maxHeartbeats 16000000 in
theorem symMerge_M (g : FuncId) (hg : CmpOk g) : ∀ (N : Nat) (pre A B post : List Pt) (a m b : Nat), A.length + B.length = N → a = pre.length → m = a + A.length → b = m + B.length → 0 < A.length → 0 < B.length → Srt A → Srt B → (∀ x ∈ A, ∀ y ∈ B, x.t < y.t) → pre.length + A.length + B.length + post.length ≤ 1000000 →
    AMut Tryz.prog 132 141 3 ((pre ++ A ++ B ++ post).map encP) [eI (a : Int), eI (m : Int), eI (b : Int), .fn g []] ((pre ++ srt (A ++ B) ++ post).map encP) := by
  intro N
  induction N using Nat.strongRecOn with
  | _ N ih =>
  intro pre A B post a m b hN ha hm hb hA0 hB0 hA hB ht hl
  by_cases hA1 : A.length = 1
  · obtain ⟨x, rfl⟩ := List.length_eq_one_iff.1 hA1
    have := symOne_M g hg pre B post x a m b ha (by simpa using hm) hb hB (fun y hy => ht x (by simp) y hy) (by simp at hl; omega)
    rwa [show pre ++ x :: (B ++ post) = pre ++ [x] ++ B ++ post by simp] at this
  by_cases hB1 : B.length = 1
  · obtain ⟨x, rfl⟩ := List.length_eq_one_iff.1 hB1
    have := symTwo_M g hg pre A post x a m b ha hm (by simpa using hb) hA (by omega) (fun y hy => ht y hy x (by simp)) (by simp at hl; omega)
    rwa [show pre ++ A ++ x :: post = pre ++ A ++ [x] ++ post by simp] at this
  obtain ⟨p, hp⟩ : ∃ p, A.length = p := ⟨_, rfl⟩
  obtain ⟨q, hq⟩ : ∃ q, B.length = q := ⟨_, rfl⟩
  rw [hp] at hN hm hA0 hA1 hl
  rw [hq] at hN hb hB0 hB1 hl
  obtain ⟨M, hM⟩ : ∃ M, (p + q) / 2 = M := ⟨_, rfl⟩
  have e0 : IntKind.i64.wrap ((m : Int) - (a : Int)) = (p : Int) := by rw [wrap_in (by omega) (by omega)]; omega
  have d0 : ((p : Int) == 1) = false := by simp; omega
  have e0' : IntKind.i64.wrap ((b : Int) - (m : Int)) = (q : Int) := by rw [wrap_in (by omega) (by omega)]; omega
  have d0' : ((q : Int) == 1) = false := by simp; omega
  have hH := half_in a b (by omega)
  have hab : (a + b) / 2 = a + M := by omega
  rw [hab] at hH
  have eH : IntKind.i64.wrap ((a + M : Nat) : Int) = ((a + M : Nat) : Int) := wrap_in (by omega) (by omega)
  have en : IntKind.i64.wrap (((a + M : Nat) : Int) + (m : Int)) = ((a + M + m : Nat) : Int) := by rw [wrap_in (by omega) (by omega)]; omega
  obtain ⟨P, hP⟩ : ∃ P, P + 1 = a + M + m := ⟨a + M + m - 1, by omega⟩
  have ep : IntKind.i64.wrap (((a + M + m : Nat) : Int) - 1) = (P : Int) := by rw [wrap_in (by omega) (by omega)]; omega
  have es : M < p → IntKind.i64.wrap (((a + M + m : Nat) : Int) - (b : Int)) = ((a + (M - q) : Nat) : Int) := fun h => by rw [wrap_in (by omega) (by omega)]; omega
  obtain ⟨T, hT⟩ : ∃ T, pre ++ srt (A ++ B) ++ post = T := ⟨_, rfl⟩
  rw [hT]
  refine amut_of_code mixedT Tryz.func132 rfl (by decide) Tryz.ntmps132 Tryz.results132 rfl (by kernel_rfl) ?_
  apply use_with
  · intro hround
    (repeat' (first | simp (maxSteps := 5000000) (implicitDefEqProofs := false) only [ruA, ruB, aEv, aBin, bin2, aConv, ASt.get, aget, ASt.put, envOf, ↓reduceIte, Nat.reduceLT, Nat.reduceEqDiff, Nat.reduceAdd, eq_self, tyI_3, tyI_146, e0, d0, e0', d0', hH, eH, en, ep] | (with_reducible refine aIf_split (fun _ => ?_) (fun _ => ?_)) | (with_reducible refine aSel_split (fun _ => ?_) (fun _ => ?_)) | (with_reducible refine aGd_split (fun _ => ?_) (fun _ => ?_))))
    · rename_i hmid
      have hpM : M < p := by clear hround; simp at hmid; omega
      have es2 := es hpM
      exact aLoop_of (fun st => ∃ u v : Nat, u ≤ v ∧ M ≤ u + q ∧ v ≤ M ∧ v ≤ p ∧ CutLo A B M u ∧ CutHi A B M v ∧ st = ⟨220, [(0, .osl 0), (1, eI (a : Int)), (2, eI (m : Int)), (3, eI (b : Int)), (4, .fn g []), (18, eI ((a + M : Nat) : Int)), (19, eI ((a + M + m : Nat) : Int)), (20, eI ((a + u : Nat) : Int)), (21, eI ((a + v : Nat) : Int)), (22, eI (P : Int))], [(0, some (.row 141 3 ((pre ++ A ++ B ++ post).map encP)))], 1⟩) (fun st => slotN st 21 - slotN st 20) ⟨_, (weak_cut1 (by (first | ((simp only [envIn, tabIn, envLt, tabLt, AObj.lt, AV.lt, AV.ltL, ruW, ASt.get, aget, ↓reduceIte, reduceCtorEq, Nat.reduceLT, Nat.reduceEqDiff, eq_self, es2]) <;> (repeat' apply And.intro) <;> first | (rw [wrapK (by omega)]; done) | (simp; done) | omega) | fail))), M - q, M, by omega, by omega, Nat.le_refl _, by omega, fun t h h' h1 h2 => by omega, fun t h h' h1 h2 => by omega, rfl⟩ hround
    · rename_i hmid
      have hpM : p ≤ M := by clear hround; simp at hmid; omega
      exact aLoop_of (fun st => ∃ u v : Nat, u ≤ v ∧ M ≤ u + q ∧ v ≤ M ∧ v ≤ p ∧ CutLo A B M u ∧ CutHi A B M v ∧ st = ⟨220, [(0, .osl 0), (1, eI (a : Int)), (2, eI (m : Int)), (3, eI (b : Int)), (4, .fn g []), (18, eI ((a + M : Nat) : Int)), (19, eI ((a + M + m : Nat) : Int)), (20, eI ((a + u : Nat) : Int)), (21, eI ((a + v : Nat) : Int)), (22, eI (P : Int))], [(0, some (.row 141 3 ((pre ++ A ++ B ++ post).map encP)))], 1⟩) (fun st => slotN st 21 - slotN st 20) ⟨_, (weak_cut1 (by (first | ((simp only [envIn, tabIn, envLt, tabLt, AObj.lt, AV.lt, AV.ltL, ruW, ASt.get, aget, ↓reduceIte, reduceCtorEq, Nat.reduceLT, Nat.reduceEqDiff, eq_self, hm, Nat.add_zero]) <;> (repeat' apply And.intro) <;> first | (rw [wrapK (by omega)]; done) | (simp; done) | omega) | fail))), 0, p, by omega, by omega, by omega, Nat.le_refl _, fun t h h' h1 h2 => by omega, fun t h h' h1 h2 => by omega, rfl⟩ hround
  clear es ep e0 e0' d0 d0' hH eH en
  rintro _ ⟨u, v, huv, hMu, hvM, hvp, hLo, hHi, rfl⟩
  by_cases hlt : u < v
  · skip
    have d1 : decide (((a + u : Nat) : Int) < ((a + v : Nat) : Int)) = true := by simp only [decide_eq_true_eq]; omega
    have d1' : decide (a + u < a + v) = true := by simp only [decide_eq_true_eq]; omega
    have hH2 := half_in (a + u) (a + v) (by omega)
    obtain ⟨h, hh, hih, hhj⟩ : ∃ h, (a + u + (a + v)) / 2 = a + h ∧ u ≤ h ∧ h < v := ⟨(a + u + (a + v)) / 2 - a, by omega, by omega, by omega⟩
    rw [hh] at hH2
    have eH2 : IntKind.i64.wrap ((a + h : Nat) : Int) = ((a + h : Nat) : Int) := wrap_in (by omega) (by omega)
    have eH3 : IntKind.i64.wrap (((a + h : Nat) : Int) + 1) = ((a + (h + 1) : Nat) : Int) := by rw [wrap_in (by omega) (by omega)]; omega
    have eH4 : IntKind.i64.wrap ((P : Int) - ((a + h : Nat) : Int)) = ((m + (M - 1 - h) : Nat) : Int) := by rw [wrap_in (by omega) (by omega)]; omega
    have hhA : h < A.length := by omega
    have hhB : M - 1 - h < B.length := by omega
    obtain ⟨hi1, hy1⟩ := getEl (show (pre ++ A ++ B ++ post)[a + h]? = some A[h] from by
      rw [List.append_assoc, List.append_assoc, List.getElem?_append_right (by omega), List.getElem?_append_left (by omega), List.getElem?_eq_getElem (by omega)]
      congr 2
      omega)
    obtain ⟨hi2, hy2⟩ := getEl (show (pre ++ A ++ B ++ post)[m + (M - 1 - h)]? = some B[M - 1 - h] from by
      rw [List.append_assoc (pre ++ A), List.getElem?_append_right (by rw [List.length_append]; omega), List.getElem?_append_left (by rw [List.length_append]; omega), List.getElem?_eq_getElem (by rw [List.length_append]; omega)]
      congr 2
      rw [List.length_append]
      omega)
    have hc := hg B[M - 1 - h] A[h]
    by_cases hxy : B[M - 1 - h].n < A[h].n
    · have d3 : decide (cmpI B[M - 1 - h].n A[h].n < 0) = true := by rw [cmpI_neg]; simpa using hxy
      have hHi' := cutHi_step hA hB hhA hhB hxy
      generalize B[M - 1 - h] = y2 at *
      generalize A[h] = y1 at *
      generalize pre ++ A ++ B ++ post = l at *
      (repeat' (first | simp (maxSteps := 5000000) (implicitDefEqProofs := false) only [ruA, ruB, aEv, aBin, bin2, aConv, ASt.get, aget, ASt.put, ↓reduceIte, Nat.reduceLT, Nat.reduceEqDiff, eq_self, tyI_3, tyI_146, d1', hH2, eH2] | (with_reducible refine aIf_split (fun _ => ?_) (fun _ => ?_)) | (with_reducible refine aSel_split (fun _ => ?_) (fun _ => ?_)) | (with_reducible refine aGd_split (fun _ => ?_) (fun _ => ?_))))
      refine aDraw_held [] [0, 1, 2, 3, 4, 5, 6, 7, 8, 9, 10] (.exec 11 (.take 12 (.take 13 .done))) (by kernel_rfl) (by simp [ATab.get_cons]) ?_
      (repeat' (first | simp (maxSteps := 5000000) (implicitDefEqProofs := false) only [ruA, ruB, aEv, aTake, aLoad, aIndex, aBin, bin2, ASt.get, aget, ASt.put, ↓reduceIte, reduceCtorEq, Nat.reduceLT, Nat.reduceEqDiff, Nat.reduceAdd, eq_self, aTakes, aFrom, tyE_138, tyA_141, tyS_141, row_at, eH4, hi1, hy1, hi2, hy2, encP] | (with_reducible refine aIf_split (fun _ => ?_) (fun _ => ?_)) | (with_reducible refine aSel_split (fun _ => ?_) (fun _ => ?_)) | (with_reducible refine aGd_split (fun _ => ?_) (fun _ => ?_))))
      refine callV hc ?_
      (repeat' (first | simp (maxSteps := 5000000) (implicitDefEqProofs := false) only [ruA, ruB, aEv, aBin, bin2, aUn, un1, ASt.get, aget, ASt.put, ↓reduceIte, Nat.reduceLT, Nat.reduceEqDiff, eq_self, aTakeE, d3] | (with_reducible refine aIf_split (fun _ => ?_) (fun _ => ?_)) | (with_reducible refine aSel_split (fun _ => ?_) (fun _ => ?_)) | (with_reducible refine aGd_split (fun _ => ?_) (fun _ => ?_))))
      exact roundI (weak_cut1 (by (first | ((simp only [envIn, tabIn, envLt, tabLt, AObj.lt, AV.lt, AV.ltL, ruW, ASt.get, aget, ↓reduceIte, reduceCtorEq, Nat.reduceLT, Nat.reduceEqDiff, eq_self]) <;> (repeat' apply And.intro) <;> first | (rw [wrapK (by omega)]; done) | (simp; done) | omega) | fail))) ⟨u, h, by omega, by omega, by omega, by omega, hLo, hHi', rfl⟩ (by simp only [slotN, ruW, ASt.get, aget, ↓reduceIte, Nat.reduceLT, Nat.reduceEqDiff, eq_self]; omega)
    · have d3 : decide (cmpI B[M - 1 - h].n A[h].n < 0) = false := by rw [cmpI_neg]; simpa using hxy
      have hLo' := cutLo_step hA hB hhA hhB (by omega) hxy
      generalize B[M - 1 - h] = y2 at *
      generalize A[h] = y1 at *
      generalize pre ++ A ++ B ++ post = l at *
      (repeat' (first | simp (maxSteps := 5000000) (implicitDefEqProofs := false) only [ruA, ruB, aEv, aBin, bin2, aConv, ASt.get, aget, ASt.put, ↓reduceIte, Nat.reduceLT, Nat.reduceEqDiff, eq_self, tyI_3, tyI_146, d1', hH2, eH2] | (with_reducible refine aIf_split (fun _ => ?_) (fun _ => ?_)) | (with_reducible refine aSel_split (fun _ => ?_) (fun _ => ?_)) | (with_reducible refine aGd_split (fun _ => ?_) (fun _ => ?_))))
      refine aDraw_held [] [0, 1, 2, 3, 4, 5, 6, 7, 8, 9, 10] (.exec 11 (.take 12 (.take 13 .done))) (by kernel_rfl) (by simp [ATab.get_cons]) ?_
      (repeat' (first | simp (maxSteps := 5000000) (implicitDefEqProofs := false) only [ruA, ruB, aEv, aTake, aLoad, aIndex, aBin, bin2, ASt.get, aget, ASt.put, ↓reduceIte, reduceCtorEq, Nat.reduceLT, Nat.reduceEqDiff, Nat.reduceAdd, eq_self, aTakes, aFrom, tyE_138, tyA_141, tyS_141, row_at, eH4, hi1, hy1, hi2, hy2, encP] | (with_reducible refine aIf_split (fun _ => ?_) (fun _ => ?_)) | (with_reducible refine aSel_split (fun _ => ?_) (fun _ => ?_)) | (with_reducible refine aGd_split (fun _ => ?_) (fun _ => ?_))))
      refine callV hc ?_
      (repeat' (first | simp (maxSteps := 5000000) (implicitDefEqProofs := false) only [ruA, ruB, aEv, aBin, bin2, aUn, un1, ASt.get, aget, ASt.put, ↓reduceIte, Nat.reduceLT, Nat.reduceEqDiff, eq_self, aTakeE, d3, eH3] | (with_reducible refine aIf_split (fun _ => ?_) (fun _ => ?_)) | (with_reducible refine aSel_split (fun _ => ?_) (fun _ => ?_)) | (with_reducible refine aGd_split (fun _ => ?_) (fun _ => ?_))))
      exact roundI (weak_cut1 (by (first | ((simp only [envIn, tabIn, envLt, tabLt, AObj.lt, AV.lt, AV.ltL, ruW, ASt.get, aget, ↓reduceIte, reduceCtorEq, Nat.reduceLT, Nat.reduceEqDiff, eq_self]) <;> (repeat' apply And.intro) <;> first | (rw [wrapK (by omega)]; done) | (simp; done) | omega) | fail))) ⟨h + 1, v, by omega, by omega, by omega, by omega, hLo', hHi, rfl⟩ (by simp only [slotN, ruW, ASt.get, aget, ↓reduceIte, Nat.reduceLT, Nat.reduceEqDiff, eq_self]; omega)
  · obtain rfl : u = v := by omega
    have d1 : decide (((a + u : Nat) : Int) < ((a + u : Nat) : Int)) = false := by simp
    have d1' : decide (a + u < a + u) = false := by simp
    obtain ⟨w, hw⟩ : ∃ w, M - u = w := ⟨_, rfl⟩
    have hcut := sym_cut hA hB ht (M := M) (u := u) (by omega) hvM (by omega) hLo hHi
    rw [hw] at hcut
    have ee : IntKind.i64.wrap (((a + M + m : Nat) : Int) - ((a + u : Nat) : Int)) = ((m + w : Nat) : Int) := by rw [wrap_in (by omega) (by omega)]; omega
    have hwq : w ≤ q := by omega
    have huwM : u + w = M := by omega
    clear hLo hHi hlt huv hw
    have hAt := List.take_append_drop u A
    have hBt := List.take_append_drop w B
    have lA1 : (A.take u).length = u := by rw [List.length_take]; omega
    have lA2 : (A.drop u).length = p - u := by rw [List.length_drop]; omega
    have lB1 : (B.take w).length = w := by rw [List.length_take]; omega
    have lB2 : (B.drop w).length = q - w := by rw [List.length_drop]; omega
    have sA1 := hA.take u
    have sA2 := hA.drop u
    have sB1 := hB.take w
    have sB2 := hB.drop w
    have mA1 : ∀ x ∈ A.take u, x ∈ A := fun x h => List.mem_of_mem_take h
    have mA2 : ∀ x ∈ A.drop u, x ∈ A := fun x h => List.mem_of_mem_drop h
    have mB1 : ∀ x ∈ B.take w, x ∈ B := fun x h => List.mem_of_mem_take h
    have mB2 : ∀ x ∈ B.drop w, x ∈ B := fun x h => List.mem_of_mem_drop h
    generalize A.take u = A1 at *
    generalize A.drop u = A2 at *
    generalize B.take w = B1 at *
    generalize B.drop w = B2 at *
    have hR1 : (u < p ∧ 0 < w → AMut Tryz.prog 142 141 3 ((pre ++ A ++ B ++ post).map encP) [eI ((a + u : Nat) : Int), eI (m : Int), eI ((m + w : Nat) : Int), .fn g []] ((pre ++ A1 ++ B1 ++ (A2 ++ B2) ++ post).map encP)) ∧ (¬ (u < p ∧ 0 < w) → pre ++ A1 ++ B1 ++ (A2 ++ B2) ++ post = pre ++ A ++ B ++ post) := by
      constructor
      · intro hc
        have := rotate_M (pre ++ A1) A2 B1 (B2 ++ post) g (a + u) m (m + w) (by rw [List.length_append]; omega) (by omega) (by omega) (by omega) (by omega) (by simp only [List.length_append]; omega)
        rw [show pre ++ A1 ++ A2 ++ B1 ++ (B2 ++ post) = pre ++ A ++ B ++ post by rw [← hAt, ← hBt]; simp only [List.append_assoc], show pre ++ A1 ++ B1 ++ A2 ++ (B2 ++ post) = pre ++ A1 ++ B1 ++ (A2 ++ B2) ++ post by simp only [List.append_assoc]] at this
        exact this
      · intro hc
        rw [← hAt, ← hBt]
        by_cases hup : u < p
        · obtain rfl : B1 = [] := List.length_eq_zero_iff.1 (by omega)
          simp only [List.append_assoc, List.append_nil, List.nil_append]
        · obtain rfl : A2 = [] := List.length_eq_zero_iff.1 (by omega)
          simp only [List.append_assoc, List.append_nil, List.nil_append]
    have hR2 : (0 < u ∧ 0 < w → AMut Tryz.prog 132 141 3 ((pre ++ A1 ++ B1 ++ (A2 ++ B2) ++ post).map encP) [eI (a : Int), eI ((a + u : Nat) : Int), eI ((a + M : Nat) : Int), .fn g []] ((pre ++ srt (A1 ++ B1) ++ A2 ++ B2 ++ post).map encP)) ∧ (¬ (0 < u ∧ 0 < w) → pre ++ srt (A1 ++ B1) ++ A2 ++ B2 ++ post = pre ++ A1 ++ B1 ++ (A2 ++ B2) ++ post) := by
      constructor
      · intro hc
        have := ih (A1.length + B1.length) (by omega) pre A1 B1 (A2 ++ B2 ++ post) a (a + u) (a + M) rfl ha (by omega) (by omega) (by omega) (by omega) sA1 sB1 (fun x hx y hy => ht x (mA1 x hx) y (mB1 y hy)) (by simp only [List.length_append]; omega)
        rw [show pre ++ A1 ++ B1 ++ (A2 ++ B2 ++ post) = pre ++ A1 ++ B1 ++ (A2 ++ B2) ++ post by simp only [List.append_assoc], show pre ++ srt (A1 ++ B1) ++ (A2 ++ B2 ++ post) = pre ++ srt (A1 ++ B1) ++ A2 ++ B2 ++ post by simp only [List.append_assoc]] at this
        exact this
      · intro hc
        have : srt (A1 ++ B1) = A1 ++ B1 := by
          by_cases hu0 : 0 < u
          · obtain rfl : B1 = [] := List.length_eq_zero_iff.1 (by omega)
            rw [List.append_nil, srt_of sA1]
          · obtain rfl : A1 = [] := List.length_eq_zero_iff.1 (by omega)
            exact srt_of sB1
        rw [this]
        simp only [List.append_assoc]
    have hR3 : (u < p ∧ w < q → AMut Tryz.prog 132 141 3 ((pre ++ srt (A1 ++ B1) ++ A2 ++ B2 ++ post).map encP) [eI ((a + M : Nat) : Int), eI ((m + w : Nat) : Int), eI (b : Int), .fn g []] (T.map encP)) ∧ (¬ (u < p ∧ w < q) → T = pre ++ srt (A1 ++ B1) ++ A2 ++ B2 ++ post) := by
      have hT2 : T = pre ++ srt (A1 ++ B1) ++ srt (A2 ++ B2) ++ post := by rw [← hT, hcut]; simp only [List.append_assoc]
      constructor
      · intro hc
        have := ih (A2.length + B2.length) (by omega) (pre ++ srt (A1 ++ B1)) A2 B2 post (a + M) (m + w) b rfl (by rw [List.length_append, srt_len, List.length_append]; omega) (by omega) (by omega) (by omega) (by omega) sA2 sB2 (fun x hx y hy => ht x (mA2 x hx) y (mB2 y hy)) (by rw [List.length_append, srt_len, List.length_append]; omega)
        rw [← hT2] at this
        exact this
      · intro hc
        have : srt (A2 ++ B2) = A2 ++ B2 := by
          by_cases hu0 : u < p
          · obtain rfl : B2 = [] := List.length_eq_zero_iff.1 (by omega)
            rw [List.append_nil, srt_of sA2]
          · obtain rfl : A2 = [] := List.length_eq_zero_iff.1 (by omega)
            exact srt_of sB2
        rw [hT2, this]
        simp only [List.append_assoc]
    clear hT hcut ih hA hB ht sA1 sA2 sB1 sB2 mA1 mA2 mB1 mB2 hAt hBt
    generalize pre ++ A ++ B ++ post = R0 at *
    generalize pre ++ A1 ++ B1 ++ (A2 ++ B2) ++ post = R1 at *
    generalize pre ++ srt (A1 ++ B1) ++ A2 ++ B2 ++ post = R2 at *
    clear hp hq lA1 lA2 lB1 lB2
    by_cases cα : u < p <;> by_cases cβ : 0 < w <;> by_cases cγ : 0 < u <;> by_cases cδ : w < q
    all_goals
      simp only [cα, cβ, cγ, cδ, and_true, true_and, and_false, and_self, not_true_eq_false, not_false_eq_true, forall_const, false_implies] at hR1 hR2 hR3
      first | subst hR1 | skip
      first | subst hR2 | skip
      first | subst hR3 | skip
      have f1 : decide (((a + u : Nat) : Int) < (m : Int)) = decide (u < p) := decide_eq_decide.2 (by omega)
      have f1' : decide (a + u < m) = decide (u < p) := decide_eq_decide.2 (by omega)
      have f2 : decide ((m : Int) < ((m + w : Nat) : Int)) = decide (0 < w) := decide_eq_decide.2 (by omega)
      have f2' : decide (m < m + w) = decide (0 < w) := decide_eq_decide.2 (by omega)
      have f3 : decide ((a : Int) < ((a + u : Nat) : Int)) = decide (0 < u) := decide_eq_decide.2 (by omega)
      have f3' : decide (a < a + u) = decide (0 < u) := decide_eq_decide.2 (by omega)
      have f4 : decide (((a + u : Nat) : Int) < ((a + M : Nat) : Int)) = decide (0 < w) := decide_eq_decide.2 (by omega)
      have f4' : decide (a + u < a + M) = decide (0 < w) := decide_eq_decide.2 (by omega)
      have f5 : decide (((a + M : Nat) : Int) < ((m + w : Nat) : Int)) = decide (u < p) := decide_eq_decide.2 (by omega)
      have f5' : decide (a + M < m + w) = decide (u < p) := decide_eq_decide.2 (by omega)
      have f6 : decide (((m + w : Nat) : Int) < (b : Int)) = decide (w < q) := decide_eq_decide.2 (by omega)
      have f6' : decide (m + w < b) = decide (w < q) := decide_eq_decide.2 (by omega)
      simp only [cα, cβ, cγ, cδ, decide_true, decide_false] at f1 f1' f2 f2' f3 f3' f4 f4' f5 f5' f6 f6'
      (repeat' (first | simp (maxSteps := 5000000) (implicitDefEqProofs := false) only [ruA, ruB, aEv, aBin, bin2, ASt.get, aget, ASt.put, ↓reduceIte, reduceCtorEq, Nat.reduceLT, Nat.reduceEqDiff, eq_self, d1', ee, f1', f2', f3', f4', f5', f6', aRetM_n] | (with_reducible refine aIf_split (fun _ => ?_) (fun _ => ?_)) | (with_reducible refine aSel_split (fun _ => ?_) (fun _ => ?_)) | (with_reducible refine aGd_split (fun _ => ?_) (fun _ => ?_))))
      try (refine callM hR1 (by simp [ATab.get_cons]) (by simp [treeML, treeM, treeL, treeC]) ?_; (repeat' (first | simp (maxSteps := 5000000) (implicitDefEqProofs := false) only [ruA, ruB, aEv, aBin, bin2, ASt.get, aget, ASt.put, ↓reduceIte, reduceCtorEq, Nat.reduceLT, Nat.reduceEqDiff, eq_self, f3', f4', f5', f6', aRetM_n] | (with_reducible refine aIf_split (fun _ => ?_) (fun _ => ?_)) | (with_reducible refine aSel_split (fun _ => ?_) (fun _ => ?_)) | (with_reducible refine aGd_split (fun _ => ?_) (fun _ => ?_)))))
      try (refine callM hR2 (by simp [ATab.get_cons]) (by simp [treeML, treeM, treeL, treeC]) ?_; (repeat' (first | simp (maxSteps := 5000000) (implicitDefEqProofs := false) only [ruA, ruB, aEv, aBin, bin2, ASt.get, aget, ASt.put, ↓reduceIte, reduceCtorEq, Nat.reduceLT, Nat.reduceEqDiff, eq_self, f5', f6', aRetM_n] | (with_reducible refine aIf_split (fun _ => ?_) (fun _ => ?_)) | (with_reducible refine aSel_split (fun _ => ?_) (fun _ => ?_)) | (with_reducible refine aGd_split (fun _ => ?_) (fun _ => ?_)))))
      try (refine callM hR3 (by simp [ATab.get_cons]) (by simp [treeML, treeM, treeL, treeC]) ?_; (repeat' (first | simp (maxSteps := 5000000) (implicitDefEqProofs := false) only [ruA, ruB, ASt.get, aget, ASt.put, ↓reduceIte, reduceCtorEq, Nat.reduceLT, eq_self, aRetM_n] | (with_reducible refine aIf_split (fun _ => ?_) (fun _ => ?_)) | (with_reducible refine aSel_split (fun _ => ?_) (fun _ => ?_)) | (with_reducible refine aGd_split (fun _ => ?_) (fun _ => ?_)))))
    all_goals trace_state
end
section
open Go.RowKit
theorem Tg.cross {l : List Pt} (h : Tg l) (k : Nat) : ∀ x ∈ l.take k, ∀ y ∈ l.drop k, x.t < y.t := by
  have : Tg (l.take k ++ l.drop k) := by rw [List.take_append_drop]; exact h
  exact (List.pairwise_append.1 this).2.2
theorem merge_two (g : FuncId) (hg : CmpOk g) (P l R : List Pt) (k a m b : Nat) (ht : Tg l) (hk : 0 < k) (hk2 : k < l.length) (ha : a = P.length) (hm : m = a + k) (hb : b = a + l.length) (hl : P.length + l.length + R.length ≤ 1000000) :
    AMut Tryz.prog 132 141 3 ((P ++ (srt (l.take k) ++ srt (l.drop k)) ++ R).map encP) [eI (a : Int), eI (m : Int), eI (b : Int), .fn g []] ((P ++ srt l ++ R).map encP) := by
  have l1 : (srt (l.take k)).length = k := by rw [srt_len, List.length_take]; omega
  have l2 : (srt (l.drop k)).length = l.length - k := by rw [srt_len, List.length_drop]
  have h := symMerge_M g hg _ P (srt (l.take k)) (srt (l.drop k)) R a m b rfl ha (by omega) (by omega) (by omega) (by omega) (srt_sorted (ht.take k).dt) (srt_sorted (ht.drop k).dt) (fun x hx y hy => ht.cross k x (srt_mem.1 hx) y (srt_mem.1 hy)) (by omega)
  rw [srt_srt (by rw [List.take_append_drop]; exact ht.dt), List.take_append_drop] at h
  rw [← List.append_assoc P]
  exact h
set_option maxRecDepth 100000 in
set_option maxHeartbeats 8000000 in
theorem stable_M (g : FuncId) (hg : CmpOk g) (l : List Pt) (n : Nat) (hn : n = l.length) (ht : Tg l) (hl : n ≤ 900000) : AMut Tryz.prog 118 141 3 (l.map encP) [eI (n : Int), .fn g []] ((srt l).map encP) := by
  refine amut_of_code mixedT Tryz.func118 rfl (by decide) Tryz.ntmps118 Tryz.results118 rfl (by kernel_rfl) ?_
  (repeat' (first | simp (maxSteps := 5000000) (implicitDefEqProofs := false) only [ruA, ruB, aEv, ASt.get, aget, ASt.put, envOf, ↓reduceIte, Nat.reduceLT, Nat.reduceEqDiff, Nat.reduceAdd, eq_self] | (with_reducible refine aIf_split (fun _ => ?_) (fun _ => ?_)) | (with_reducible refine aSel_split (fun _ => ?_) (fun _ => ?_)) | (with_reducible refine aGd_split (fun _ => ?_) (fun _ => ?_))))
  refine aLoop_of (fun st => ∃ (j : Nat) (P : List Pt), P.length = 20 * j ∧ 20 * j ≤ n ∧ G 20 l = P ++ G 20 (l.drop (20 * j)) ∧ st = ⟨63, [(0, .osl 0), (1, eI (n : Int)), (2, .fn g []), (6, eI 20), (7, eI ((20 * j : Nat) : Int)), (8, eI ((20 * j + 20 : Nat) : Int))], [(0, some (.row 141 3 ((P ++ l.drop (20 * j)).map encP)))], 1⟩) (fun st => n + 20 - slotN st 8) ⟨_, (weak_cut1 (by (first | ((simp only [envIn, tabIn, envLt, tabLt, AObj.lt, AV.lt, AV.ltL, ruW, ASt.get, aget, ↓reduceIte, reduceCtorEq, Nat.reduceLT, Nat.reduceEqDiff, Nat.reduceAdd, eq_self, Nat.mul_zero, List.drop_zero]) <;> (repeat' apply And.intro) <;> first | (rw [wrapK (by omega)]; done) | (simp; done) | omega) | fail))), 0, [], rfl, Nat.zero_le _, rfl, rfl⟩ ?_
  rintro _ ⟨j, P, hP, hjn, hG, rfl⟩
  have hdl : (l.drop (20 * j)).length = n - 20 * j := by rw [List.length_drop]; omega
  have htd := ht.drop (20 * j)
  by_cases hlt : 20 * j + 20 ≤ n
  · have d1 : decide (((20 * j + 20 : Nat) : Int) ≤ (n : Int)) = true := by simp only [decide_eq_true_eq]; omega
    have d1' : decide (20 * j + 20 ≤ n) = true := by simpa using hlt
    have e1 : IntKind.i64.wrap (((20 * j + 20 : Nat) : Int) + 20) = ((20 * (j + 1) + 20 : Nat) : Int) := by rw [wrap_in (by omega) (by omega)]; omega
    have e2 : 20 * j + 20 = 20 * (j + 1) := by omega
    have hd : (l.drop (20 * j)).drop 20 = l.drop (20 * (j + 1)) := by rw [List.drop_drop]; congr 1
    have hGn : G 20 l = (P ++ srt ((l.drop (20 * j)).take 20)) ++ G 20 (l.drop (20 * (j + 1))) := by rw [hG, G_ge (by decide) (by omega), hd, List.append_assoc]
    have hlt2 : ((l.drop (20 * j)).take 20).length = 20 := by rw [List.length_take]; omega
    have hM := insertion_M g hg P ((l.drop (20 * j)).take 20) (l.drop (20 * (j + 1))) (20 * j) (20 * j + 20) hP.symm (by omega) (htd.take 20) (by simp only [List.length_append, hlt2, List.length_drop]; omega)
    rw [show P ++ (l.drop (20 * j)).take 20 ++ l.drop (20 * (j + 1)) = P ++ l.drop (20 * j) by rw [← hd, List.append_assoc, List.take_append_drop]] at hM
    have hPl : (P ++ srt ((l.drop (20 * j)).take 20)).length = 20 * (j + 1) := by rw [List.length_append, srt_len]; omega
    generalize P ++ srt ((l.drop (20 * j)).take 20) = P2 at *
    (repeat' (first | simp (maxSteps := 5000000) (implicitDefEqProofs := false) only [ruA, ruB, aEv, aBin, bin2, ASt.get, aget, ASt.put, ↓reduceIte, reduceCtorEq, Nat.reduceLT, Nat.reduceEqDiff, eq_self, d1'] | (with_reducible refine aIf_split (fun _ => ?_) (fun _ => ?_)) | (with_reducible refine aSel_split (fun _ => ?_) (fun _ => ?_)) | (with_reducible refine aGd_split (fun _ => ?_) (fun _ => ?_))))
    refine callM hM (by simp [ATab.get_cons]) (by simp [treeML, treeM, treeL, treeC]) ?_
    (repeat' (first | simp (maxSteps := 5000000) (implicitDefEqProofs := false) only [ruA, ruB, aEv, aBin, bin2, ASt.get, aget, ASt.put, ↓reduceIte, Nat.reduceLT, Nat.reduceEqDiff, eq_self, e1] | (with_reducible refine aIf_split (fun _ => ?_) (fun _ => ?_)) | (with_reducible refine aSel_split (fun _ => ?_) (fun _ => ?_)) | (with_reducible refine aGd_split (fun _ => ?_) (fun _ => ?_))))
    exact roundI (weak_cut1 (by (first | ((simp only [envIn, tabIn, envLt, tabLt, AObj.lt, AV.lt, AV.ltL, ruW, ASt.get, aget, ↓reduceIte, reduceCtorEq, Nat.reduceLT, Nat.reduceEqDiff, eq_self, e2]) <;> (repeat' apply And.intro) <;> first | (rw [wrapK (by omega)]; done) | (simp; done) | omega) | fail))) ⟨j + 1, P2, hPl, by omega, hGn, rfl⟩ (by simp only [slotN, ruW, ASt.get, aget, ↓reduceIte, Nat.reduceLT, Nat.reduceEqDiff, eq_self]; omega)
  · have d1 : decide (((20 * j + 20 : Nat) : Int) ≤ (n : Int)) = false := by simp only [decide_eq_false_iff_not]; omega
    have d1' : decide (20 * j + 20 ≤ n) = false := by simp only [decide_eq_false_iff_not]; omega
    have hM := insertion_M g hg P (l.drop (20 * j)) [] (20 * j) n hP.symm (by omega) htd (by simp only [List.length_append, List.length_nil]; omega)
    have hGe : P ++ srt (l.drop (20 * j)) ++ [] = G 20 l := by rw [hG, List.append_nil, G_lt (bs := 20) (by decide) (by omega)]
    rw [List.append_nil, hGe] at hM
    (repeat' (first | simp (maxSteps := 5000000) (implicitDefEqProofs := false) only [ruA, ruB, aEv, aBin, bin2, ASt.get, aget, ASt.put, ↓reduceIte, reduceCtorEq, Nat.reduceLT, Nat.reduceEqDiff, eq_self, d1'] | (with_reducible refine aIf_split (fun _ => ?_) (fun _ => ?_)) | (with_reducible refine aSel_split (fun _ => ?_) (fun _ => ?_)) | (with_reducible refine aGd_split (fun _ => ?_) (fun _ => ?_))))
    refine callM hM (by simp [ATab.get_cons]) (by simp [treeML, treeM, treeL, treeC]) ?_
    clear hM hGe hG hdl htd d1 d1' hP hjn hlt
    (repeat' (first | simp (maxSteps := 5000000) (implicitDefEqProofs := false) only [ruA, ASt.put] | (with_reducible refine aIf_split (fun _ => ?_) (fun _ => ?_)) | (with_reducible refine aSel_split (fun _ => ?_) (fun _ => ?_)) | (with_reducible refine aGd_split (fun _ => ?_) (fun _ => ?_))))
    have h20 : ((20 : Nat) : Int) = 20 := rfl
    refine aLoop_of (fun st => ∃ bs : Nat, 20 ≤ bs ∧ bs ≤ 40 + 2 * n ∧ st = ⟨63, [(0, .osl 0), (1, eI (n : Int)), (2, .fn g []), (6, eI (bs : Int))], [(0, some (.row 141 3 ((G bs l).map encP)))], 1⟩) (fun st => n - slotN st 6) ⟨_, (weak_cut1 (by (first | ((simp only [envIn, tabIn, envLt, tabLt, AObj.lt, AV.lt, AV.ltL, ruW, ASt.get, aget, ↓reduceIte, reduceCtorEq, Nat.reduceLT, Nat.reduceEqDiff, eq_self, h20]) <;> (repeat' apply And.intro) <;> first | (rw [wrapK (by omega)]; done) | (simp; done) | omega) | fail))), 20, Nat.le_refl _, by omega, rfl⟩ ?_
    clear h20
    rintro _ ⟨bs, hbs, hbs2, rfl⟩
    by_cases hlt : bs < n
    · have d1 : decide ((bs : Int) < (n : Int)) = true := by simp only [decide_eq_true_eq]; omega
      have d1' : decide (bs < n) = true := by simpa using hlt
      have e1 : IntKind.i64.wrap (2 * (bs : Int)) = ((2 * bs : Nat) : Int) := by rw [wrap_in (by omega) (by omega)]; omega
      have e1' : IntKind.i64.wrap ((bs : Int) * 2) = ((2 * bs : Nat) : Int) := by rw [wrap_in (by omega) (by omega)]; omega
      obtain ⟨D, hD⟩ : ∃ D, 2 * bs = D := ⟨_, rfl⟩
      rw [hD] at e1 e1'
      (repeat' (first | simp (maxSteps := 5000000) (implicitDefEqProofs := false) only [ruA, ruB, aEv, aBin, bin2, ASt.get, aget, ASt.put, ↓reduceIte, Nat.reduceLT, Nat.reduceEqDiff, eq_self, d1', e1] | (with_reducible refine aIf_split (fun _ => ?_) (fun _ => ?_)) | (with_reducible refine aSel_split (fun _ => ?_) (fun _ => ?_)) | (with_reducible refine aGd_split (fun _ => ?_) (fun _ => ?_))))
      refine aLoop_of (fun st => ∃ (a : Nat) (P R : List Pt), P.length = a ∧ a + R.length = n ∧ a ≤ n ∧ Tg R ∧ G D l = P ++ G D R ∧ st = ⟨63, [(0, .osl 0), (1, eI (n : Int)), (2, .fn g []), (6, eI (bs : Int)), (7, eI (a : Int)), (8, eI ((a + D : Nat) : Int))], [(0, some (.row 141 3 ((P ++ G bs R).map encP)))], 1⟩) (fun st => n + D - slotN st 8) ⟨_, (weak_cut1 (by (first | ((simp only [envIn, tabIn, envLt, tabLt, AObj.lt, AV.lt, AV.ltL, ruW, ASt.get, aget, ↓reduceIte, reduceCtorEq, Nat.reduceLT, Nat.reduceEqDiff, eq_self, Nat.zero_add]) <;> (repeat' apply And.intro) <;> first | (rw [wrapK (by omega)]; done) | (simp; done) | omega) | fail))), 0, [], l, rfl, by omega, by omega, ht, rfl, rfl⟩ ?_
      rintro _ ⟨a, P, R, hP, haR, han, htR, hG, rfl⟩
      have hRl : R.length = n - a := by omega
      by_cases hlt2 : a + D ≤ n
      · have d2 : decide (((a + D : Nat) : Int) ≤ (n : Int)) = true := by simp only [decide_eq_true_eq]; omega
        have d2' : decide (a + D ≤ n) = true := by simpa using hlt2
        have e2 : IntKind.i64.wrap ((a : Int) + (bs : Int)) = ((a + bs : Nat) : Int) := by rw [wrap_in (by omega) (by omega)]; omega
        have e3 : IntKind.i64.wrap (((a + D : Nat) : Int) + (D : Int)) = ((a + D + D : Nat) : Int) := by rw [wrap_in (by omega) (by omega)]; omega
        have hX : (R.take D).take bs = R.take bs := by rw [List.take_take]; congr 1; omega
        have hY : (R.take D).drop bs = (R.drop bs).take bs := by rw [List.drop_take]; congr 1; omega
        have hDl : (R.take D).length = D := by rw [List.length_take]; omega
        have hdd : (R.drop bs).drop bs = R.drop D := by rw [List.drop_drop]; congr 1; omega
        have hG1 : G bs R = (srt (R.take bs) ++ srt ((R.drop bs).take bs)) ++ G bs (R.drop D) := by
          rw [G_ge (by omega) (by omega : bs ≤ R.length), G_ge (by omega) (by rw [List.length_drop]; omega : bs ≤ (R.drop bs).length), hdd, List.append_assoc]
        have hG2 : G D l = (P ++ srt (R.take D)) ++ G D (R.drop D) := by rw [hG, G_ge (by omega) (by omega : D ≤ R.length), List.append_assoc]
        have hM := merge_two g hg P (R.take D) (G bs (R.drop D)) bs a (a + bs) (a + D) (htR.take D) (by omega) (by omega) hP.symm rfl (by omega) (by rw [G_len (by omega), List.length_drop]; omega)
        rw [hX, hY] at hM
        rw [hG1, ← List.append_assoc P]
        have hPl : (P ++ srt (R.take D)).length = a + D := by rw [List.length_append, srt_len]; omega
        have htR2 := htR.drop D
        have hRl2 : (R.drop D).length = n - (a + D) := by rw [List.length_drop]; omega
        generalize P ++ srt (R.take D) = P2 at *
        generalize R.drop D = R2 at *
        generalize hQ0 : P ++ (srt (R.take bs) ++ srt ((R.drop bs).take bs)) ++ G bs R2 = Q0 at *
        clear hG1 hG hX hY hdd htR hRl
        (repeat' (first | simp (maxSteps := 5000000) (implicitDefEqProofs := false) only [ruA, ruB, aEv, aBin, bin2, ASt.get, aget, ASt.put, ↓reduceIte, reduceCtorEq, Nat.reduceLT, Nat.reduceEqDiff, eq_self, d2', e2] | (with_reducible refine aIf_split (fun _ => ?_) (fun _ => ?_)) | (with_reducible refine aSel_split (fun _ => ?_) (fun _ => ?_)) | (with_reducible refine aGd_split (fun _ => ?_) (fun _ => ?_))))
        refine callM hM (by simp [ATab.get_cons]) (by simp [treeML, treeM, treeL, treeC]) ?_
        (repeat' (first | simp (maxSteps := 5000000) (implicitDefEqProofs := false) only [ruA, ruB, aEv, aBin, bin2, ASt.get, aget, ASt.put, ↓reduceIte, Nat.reduceLT, Nat.reduceEqDiff, eq_self, e1, e3] | (with_reducible refine aIf_split (fun _ => ?_) (fun _ => ?_)) | (with_reducible refine aSel_split (fun _ => ?_) (fun _ => ?_)) | (with_reducible refine aGd_split (fun _ => ?_) (fun _ => ?_))))
        exact roundI (weak_cut1 (by (first | ((simp only [envIn, tabIn, envLt, tabLt, AObj.lt, AV.lt, AV.ltL, ruW, ASt.get, aget, ↓reduceIte, reduceCtorEq, Nat.reduceLT, Nat.reduceEqDiff, eq_self]) <;> (repeat' apply And.intro) <;> first | (rw [wrapK (by omega)]; done) | (simp; done) | omega) | fail))) ⟨a + D, P2, R2, hPl, by omega, hlt2, htR2, hG2, rfl⟩ (by simp only [slotN, ruW, ASt.get, aget, ↓reduceIte, Nat.reduceLT, Nat.reduceEqDiff, eq_self]; omega)
      · have d2 : decide (((a + D : Nat) : Int) ≤ (n : Int)) = false := by simp only [decide_eq_false_iff_not]; omega
        have d2' : decide (a + D ≤ n) = false := by simp only [decide_eq_false_iff_not]; omega
        have e2 : IntKind.i64.wrap ((a : Int) + (bs : Int)) = ((a + bs : Nat) : Int) := by rw [wrap_in (by omega) (by omega)]; omega
        have hG2 : G D l = P ++ srt R := by rw [hG, G_lt (bs := D) (by omega) (by omega)]
        by_cases hlt3 : a + bs < n
        · have d3 : decide (((a + bs : Nat) : Int) < (n : Int)) = true := by simp only [decide_eq_true_eq]; omega
          have d3' : decide (a + bs < n) = true := by simpa using hlt3
          have hG1 : G bs R = srt (R.take bs) ++ srt (R.drop bs) := by rw [G_ge (by omega) (by omega : bs ≤ R.length), G_lt (bs := bs) (by omega) (by rw [List.length_drop]; omega)]
          have hM := merge_two g hg P R [] bs a (a + bs) n htR (by omega) (by omega) hP.symm rfl (by omega) (by simp; omega)
          rw [List.append_nil, List.append_nil, ← hG1, ← hG2] at hM
          clear hG1 hG2 hG htR hRl
          (repeat' (first | simp (maxSteps := 5000000) (implicitDefEqProofs := false) only [ruA, ruB, aEv, aBin, bin2, ASt.get, aget, ASt.put, ↓reduceIte, reduceCtorEq, Nat.reduceLT, Nat.reduceEqDiff, eq_self, d2', e2, d3'] | (with_reducible refine aIf_split (fun _ => ?_) (fun _ => ?_)) | (with_reducible refine aSel_split (fun _ => ?_) (fun _ => ?_)) | (with_reducible refine aGd_split (fun _ => ?_) (fun _ => ?_))))
          refine callM hM (by simp [ATab.get_cons]) (by simp [treeML, treeM, treeL, treeC]) ?_
          (repeat' (first | simp (maxSteps := 5000000) (implicitDefEqProofs := false) only [ruA, ruB, aEv, aBin, bin2, ASt.get, aget, ASt.put, ↓reduceIte, Nat.reduceLT, Nat.reduceEqDiff, eq_self, e1'] | (with_reducible refine aIf_split (fun _ => ?_) (fun _ => ?_)) | (with_reducible refine aSel_split (fun _ => ?_) (fun _ => ?_)) | (with_reducible refine aGd_split (fun _ => ?_) (fun _ => ?_))))
          exact roundI (weak_cut1 (by (first | ((simp only [envIn, tabIn, envLt, tabLt, AObj.lt, AV.lt, AV.ltL, ruW, ASt.get, aget, ↓reduceIte, reduceCtorEq, Nat.reduceLT, Nat.reduceEqDiff, eq_self]) <;> (repeat' apply And.intro) <;> first | (rw [wrapK (by omega)]; done) | (simp; done) | omega) | fail))) ⟨D, by omega, by omega, rfl⟩ (by simp only [slotN, ruW, ASt.get, aget, ↓reduceIte, Nat.reduceLT, Nat.reduceEqDiff, eq_self]; omega)
        · have d3 : decide (((a + bs : Nat) : Int) < (n : Int)) = false := by simp only [decide_eq_false_iff_not]; omega
          have d3' : decide (a + bs < n) = false := by simp only [decide_eq_false_iff_not]; omega
          have hG1 : P ++ G bs R = G D l := by rw [hG2, G_lt (bs := bs) (by omega) (by omega)]
          rw [hG1]
          (repeat' (first | simp (maxSteps := 5000000) (implicitDefEqProofs := false) only [ruA, ruB, aEv, aBin, bin2, ASt.get, aget, ASt.put, ↓reduceIte, Nat.reduceLT, Nat.reduceEqDiff, eq_self, d2', e2, d3', e1'] | (with_reducible refine aIf_split (fun _ => ?_) (fun _ => ?_)) | (with_reducible refine aSel_split (fun _ => ?_) (fun _ => ?_)) | (with_reducible refine aGd_split (fun _ => ?_) (fun _ => ?_))))
          exact roundI (weak_cut1 (by (first | ((simp only [envIn, tabIn, envLt, tabLt, AObj.lt, AV.lt, AV.ltL, ruW, ASt.get, aget, ↓reduceIte, reduceCtorEq, Nat.reduceLT, Nat.reduceEqDiff, eq_self]) <;> (repeat' apply And.intro) <;> first | (rw [wrapK (by omega)]; done) | (simp; done) | omega) | fail))) ⟨D, by omega, by omega, rfl⟩ (by simp only [slotN, ruW, ASt.get, aget, ↓reduceIte, Nat.reduceLT, Nat.reduceEqDiff, eq_self]; omega)
    · have d1 : decide ((bs : Int) < (n : Int)) = false := by simp only [decide_eq_false_iff_not]; omega
      have d1' : decide (bs < n) = false := by simp only [decide_eq_false_iff_not]; omega
      rw [G_lt (bs := bs) (by omega) (by omega)]
      (repeat' (first | simp (maxSteps := 5000000) (implicitDefEqProofs := false) only [ruA, ruB, aEv, aBin, bin2, ASt.get, aget, ASt.put, ↓reduceIte, reduceCtorEq, Nat.reduceLT, Nat.reduceEqDiff, eq_self, d1', aRetM_n] | (with_reducible refine aIf_split (fun _ => ?_) (fun _ => ?_)) | (with_reducible refine aSel_split (fun _ => ?_) (fun _ => ?_)) | (with_reducible refine aGd_split (fun _ => ?_) (fun _ => ?_))))
set_option maxRecDepth 100000 in
set_option maxHeartbeats 8000000 in
theorem sortStable_M (g : FuncId) (hg : CmpOk g) (l : List Pt) (ht : Tg l) (hl : l.length ≤ 900000) : AMut Tryz.prog 97 141 3 (l.map encP) [.fn g []] ((srt l).map encP) := by
  have hM := stable_M g hg l l.length rfl ht hl
  refine amut_of_code mixedT Tryz.func97 rfl (by decide) Tryz.ntmps97 Tryz.results97 rfl (by kernel_rfl) ?_
  (repeat' (first | simp (maxSteps := 5000000) (implicitDefEqProofs := false) only [ruA, ruB, aEv, aLen, ASt.get, aget, ASt.put, envOf, ↓reduceIte, reduceCtorEq, Nat.reduceLT, Nat.reduceEqDiff, eq_self, ne_eq, tyE_138] | (with_reducible refine aIf_split (fun _ => ?_) (fun _ => ?_)) | (with_reducible refine aSel_split (fun _ => ?_) (fun _ => ?_)) | (with_reducible refine aGd_split (fun _ => ?_) (fun _ => ?_))))
  refine callM hM (by simp [ATab.get_cons]) (by simp [treeML, treeM, treeL, treeC]) ?_
  (repeat' (first | simp (maxSteps := 5000000) (implicitDefEqProofs := false) only [ruA, ruB, ASt.get, aget, ASt.put, ↓reduceIte, reduceCtorEq, Nat.reduceLT, eq_self, aRetM_n] | (with_reducible refine aIf_split (fun _ => ?_) (fun _ => ?_)) | (with_reducible refine aSel_split (fun _ => ?_) (fun _ => ?_)) | (with_reducible refine aGd_split (fun _ => ?_) (fun _ => ?_))))
end
section
open Go.RowKit
def numsL (vals c : List Int) : List Int := sortR (vals ++ c)
def attrsN (vals : List Int) (n : Int) : Nat → Int
  | 0 => 0
  | k + 1 => if vals.getD k 0 = n then withB (attrsN vals n k) (k : Int) else attrsN vals n k
def constN (c : List Int) (n : Int) : Nat → Int
  | 0 => -1
  | k + 1 => if c.getD k 0 = n then (k : Int) else constN c n k
def clsOf (vals c : List Int) (n : Int) : Cls := ⟨attrsN vals n vals.length, constN (sortR c) n (sortR c).length⟩
def clsL (vals c : List Int) : List Cls := (numsL vals c).map (clsOf vals c)
theorem hasB_zero (a : Int) : hasB 0 a = false := by simp [hasB]
theorem attrs_has (vals : List Int) (n : Int) : ∀ k, k ≤ 31 → ∀ a : Int, hasB (attrsN vals n k) a = true ↔ ∃ q : Nat, a = (q : Int) ∧ q < k ∧ vals.getD q 0 = n
  | 0, _, a => by
    unfold attrsN
    rw [hasB_zero]
    constructor
    · intro h
      cases h
    · rintro ⟨q, _, h, _⟩
      omega
  | k + 1, hk, a => by
    have ih := attrs_has vals n k (by omega) a
    unfold attrsN
    by_cases hv : vals.getD k 0 = n
    · rw [if_pos hv, hasB_with]
      have h1 : decide (0 ≤ (k : Int) ∧ (k : Int) < 31) = true := by simp only [decide_eq_true_eq]; omega
      rw [h1, Bool.true_and, Bool.or_eq_true, ih]
      constructor
      · rintro (h | ⟨q, h2, h3, h4⟩)
        · exact ⟨k, by simpa using h, by omega, hv⟩
        · exact ⟨q, h2, by omega, h4⟩
      · rintro ⟨q, h2, h3, h4⟩
        rcases Nat.lt_or_ge q k with h5 | h5
        · exact .inr ⟨q, h2, h5, h4⟩
        · obtain rfl : q = k := by omega
          exact .inl (by simp [h2])
    · rw [if_neg hv, ih]
      constructor
      · rintro ⟨q, h2, h3, h4⟩
        exact ⟨q, h2, by omega, h4⟩
      · rintro ⟨q, h2, h3, h4⟩
        rcases Nat.lt_or_ge q k with h5 | h5
        · exact ⟨q, h2, h5, h4⟩
        · obtain rfl : q = k := by omega
          exact absurd h4 hv
theorem const_spec (c : List Int) (n : Int) : ∀ k, (constN c n k = -1 ∧ ∀ q, q < k → c.getD q 0 ≠ n) ∨ ∃ q : Nat, constN c n k = (q : Int) ∧ q < k ∧ c.getD q 0 = n
  | 0 => .inl ⟨rfl, fun q h => by omega⟩
  | k + 1 => by
    unfold constN
    by_cases hv : c.getD k 0 = n
    · rw [if_pos hv]
      exact .inr ⟨k, rfl, by omega, hv⟩
    · rw [if_neg hv]
      rcases const_spec c n k with ⟨h1, h2⟩ | ⟨q, h1, h2, h3⟩
      · refine .inl ⟨h1, fun q h => ?_⟩
        rcases Nat.lt_or_ge q k with h5 | h5
        · exact h2 q h5
        · obtain rfl : q = k := by omega
          exact hv
      · exact .inr ⟨q, h1, by omega, h3⟩
end
section
open Go.RowKit
def capV (r : Int) : Int := 2 ^ (min r.toNat 20) - 1
set_option maxRecDepth 100000 in
theorem cap_A (r : Int) : ADet Tryz.prog 58 [eI r] (val (.int .i64 (capV r))) := by
  refine adet_of_code mixedT Tryz.func58 rfl (by decide) Tryz.ntmps58 Tryz.results58 rfl (val_ok _) ?_
  (repeat' (first | simp (maxSteps := 5000000) (implicitDefEqProofs := false) only [ruA, aEv, ASt.put, envOf] | (with_reducible refine aIf_split (fun _ => ?_) (fun _ => ?_)) | (with_reducible refine aSel_split (fun _ => ?_) (fun _ => ?_)) | (with_reducible refine aGd_split (fun _ => ?_) (fun _ => ?_))))
  refine aLoop_of (fun st => ∃ k : Nat, k ≤ 20 ∧ (k = 0 ∨ (k : Int) ≤ r) ∧ st = ⟨18, [(0, eI r), (3, eI (2 ^ k - 1)), (4, eI (k : Int))], [], 0⟩) (fun st => 20 - slotN st 4) ⟨_, (weak_cut1 (by (first | ((simp only [envIn, tabIn, envLt, tabLt, AV.lt, ruW, ASt.get, aget, ↓reduceIte, reduceCtorEq, Nat.reduceLT, Nat.reduceEqDiff, eq_self]) <;> (repeat' apply And.intro) <;> first | (rw [wrapK (by omega)]; done) | (simp; done) | omega) | fail))), 0, Nat.zero_le _, .inl rfl, rfl⟩ ?_
  rintro _ ⟨k, hk, hr, rfl⟩
  have hp : (2 : Int) ^ k ≤ 1048576 := by
    have h1 : (2 : Nat) ^ k ≤ 2 ^ 20 := Nat.pow_le_pow_right (by omega) hk
    have h2 : ((2 ^ k : Nat) : Int) = (2 : Int) ^ k := by simp
    omega
  have hp0 : (0 : Int) < 2 ^ k := Int.pow_pos (by omega)
  have hps : (2 : Int) ^ (k + 1) = 2 * 2 ^ k := by rw [Int.pow_succ, Int.mul_comm]
  have ew1 : IntKind.i64.wrap (2 * (2 ^ k - 1)) = 2 * (2 ^ k - 1) := wrap_in (by omega) (by omega)
  have ew2 : IntKind.i64.wrap (2 * (2 ^ k - 1) + 1) = 2 ^ (k + 1) - 1 := by rw [wrap_in (by omega) (by omega)]; omega
  by_cases h1 : (k : Int) < r
  · by_cases h2 : k < 20
    · have d1 : decide ((k : Int) < r) = true := by simpa using h1
      have d2 : decide ((k : Int) < 20) = true := by simp only [decide_eq_true_eq]; omega
      (repeat' (first | simp (maxSteps := 5000000) (implicitDefEqProofs := false) only [ruA, ruB, aEv, aBin, bin2, ASt.get, aget, ASt.put, ↓reduceIte, reduceCtorEq, Nat.reduceLT, Nat.reduceEqDiff, eq_self, d1, d2, ew1, ew2] | (with_reducible refine aIf_split (fun _ => ?_) (fun _ => ?_)) | (with_reducible refine aSel_split (fun _ => ?_) (fun _ => ?_)) | (with_reducible refine aGd_split (fun _ => ?_) (fun _ => ?_)) | (with_reducible refine aDraw_quiet (by kernel_rfl) ?_)))
      exact roundI (weak_cut1 (by (first | ((simp only [envIn, tabIn, envLt, tabLt, AV.lt, ruW, ASt.get, aget, ↓reduceIte, reduceCtorEq, Nat.reduceLT, Nat.reduceEqDiff, eq_self]) <;> (repeat' apply And.intro) <;> first | (rw [wrapK (by omega)]; done) | (simp; done) | omega) | fail))) ⟨k + 1, by omega, by omega, rfl⟩ (by simp only [slotN, ruW, ASt.get, aget, ↓reduceIte, Nat.reduceLT, eq_self]; omega)
    · have d1 : decide ((k : Int) < r) = true := by simpa using h1
      have d2 : decide ((k : Int) < 20) = false := by simp only [decide_eq_false_iff_not]; omega
      (repeat' (first | simp (maxSteps := 5000000) (implicitDefEqProofs := false) only [ruA, ruB, aEv, aBin, bin2, ASt.get, aget, ASt.put, aResL, aOne, ↓reduceIte, reduceCtorEq, Nat.reduceLT, Nat.reduceEqDiff, eq_self, d1, d2] | (with_reducible refine aIf_split (fun _ => ?_) (fun _ => ?_)) | (with_reducible refine aSel_split (fun _ => ?_) (fun _ => ?_)) | (with_reducible refine aGd_split (fun _ => ?_) (fun _ => ?_)) | (with_reducible refine aDraw_quiet (by kernel_rfl) ?_)))
      unfold capV
      rw [show min r.toNat 20 = k by omega]
  · have d1 : decide ((k : Int) < r) = false := by simpa using h1
    (repeat' (first | simp (maxSteps := 5000000) (implicitDefEqProofs := false) only [ruA, ruB, aEv, aBin, bin2, ASt.get, aget, ASt.put, aResL, aOne, ↓reduceIte, reduceCtorEq, Nat.reduceLT, Nat.reduceEqDiff, eq_self, d1] | (with_reducible refine aIf_split (fun _ => ?_) (fun _ => ?_)) | (with_reducible refine aSel_split (fun _ => ?_) (fun _ => ?_)) | (with_reducible refine aGd_split (fun _ => ?_) (fun _ => ?_)) | (with_reducible refine aDraw_quiet (by kernel_rfl) ?_)))
    unfold capV
    rw [show min r.toNat 20 = k by omega]
def gapV (a b m : Int) : Int := max 0 (min (b - a - 1) m)
set_option maxRecDepth 100000 in
theorem gap_A (a b m : Int) (ha : ok64 a) (hb : ok64 b) (hm : m ≤ 4294967296) : ADet Tryz.prog 63 [eI a, eI b, eI m] (val (.int .i64 (gapV a b m))) := by
  refine adet_of_code mixedT Tryz.func63 rfl (by decide) Tryz.ntmps63 Tryz.results63 rfl (val_ok _) ?_
  (repeat' (first | simp (maxSteps := 5000000) (implicitDefEqProofs := false) only [ruA, ruB, aEv, ASt.put, envOf, Nat.reduceAdd] | (with_reducible refine aIf_split (fun _ => ?_) (fun _ => ?_)) | (with_reducible refine aSel_split (fun _ => ?_) (fun _ => ?_)) | (with_reducible refine aGd_split (fun _ => ?_) (fun _ => ?_))))
  unfold ok64 at ha hb
  refine aLoop_of (fun st => ∃ (k : Nat) (a' : Int), (k : Int) ≤ gapV a b m ∧ a' = a + k ∧ st = ⟨27, [(0, eI a'), (1, eI b), (2, eI m), (7, eI (k : Int))], [], 0⟩) (fun st => m.toNat - slotN st 7) ⟨_, (weak_cut1 (by (first | ((simp only [envIn, tabIn, envLt, tabLt, AV.lt, ruW, ASt.get, aget, ↓reduceIte, reduceCtorEq, Nat.reduceLT, Nat.reduceEqDiff, eq_self]) <;> (repeat' apply And.intro) <;> first | (rw [wrapK (by omega)]; done) | (simp; done) | omega) | fail))), 0, a, by unfold gapV; omega, by omega, rfl⟩ ?_
  rintro _ ⟨k, a', hk, ha', rfl⟩
  by_cases h : (k : Int) < m ∧ a' < b ∧ a' + 1 < b
  · have d1 : decide ((k : Int) < m) = true := by simpa using h.1
    have d2 : decide (a' < b) = true := by simpa using h.2.1
    have d3 : decide (a' + 1 < b) = true := by simpa using h.2.2
    have ew : IntKind.i64.wrap (a' + 1) = a' + 1 := wrap_in (by omega) (by omega)
    (repeat' (first | simp (maxSteps := 5000000) (implicitDefEqProofs := false) only [ruA, ruB, aEv, aBin, bin2, ASt.get, aget, ASt.put, ↓reduceIte, reduceCtorEq, Nat.reduceLT, Nat.reduceEqDiff, eq_self, d1, d2, ew, d3] | (with_reducible refine aIf_split (fun _ => ?_) (fun _ => ?_)) | (with_reducible refine aSel_split (fun _ => ?_) (fun _ => ?_)) | (with_reducible refine aGd_split (fun _ => ?_) (fun _ => ?_)) | (with_reducible refine aDraw_quiet (by kernel_rfl) ?_)))
    exact roundI (weak_cut1 (by (first | ((simp only [envIn, tabIn, envLt, tabLt, AV.lt, ruW, ASt.get, aget, ↓reduceIte, reduceCtorEq, Nat.reduceLT, Nat.reduceEqDiff, eq_self]) <;> (repeat' apply And.intro) <;> first | (rw [wrapK (by omega)]; done) | (simp; done) | omega) | fail))) ⟨k + 1, a' + 1, by unfold gapV at *; omega, by omega, rfl⟩ (by simp only [slotN, ruW, ASt.get, aget, ↓reduceIte, Nat.reduceLT, Nat.reduceEqDiff, eq_self]; omega)
  · have hg : (k : Int) = gapV a b m := by unfold gapV at *; omega
    by_cases h1 : (k : Int) < m
    · have d1 : decide ((k : Int) < m) = true := by simpa using h1
      by_cases h2 : a' < b
      · have d2 : decide (a' < b) = true := by simpa using h2
        have d3 : decide (a' + 1 < b) = false := by simp only [decide_eq_false_iff_not]; omega
        have ew : IntKind.i64.wrap (a' + 1) = a' + 1 := wrap_in (by omega) (by omega)
        (repeat' (first | simp (maxSteps := 5000000) (implicitDefEqProofs := false) only [ruA, ruB, aEv, aBin, bin2, ASt.get, aget, ASt.put, aResL, aOne, ↓reduceIte, reduceCtorEq, Nat.reduceLT, Nat.reduceEqDiff, eq_self, d1, d2, ew, d3] | (with_reducible refine aIf_split (fun _ => ?_) (fun _ => ?_)) | (with_reducible refine aSel_split (fun _ => ?_) (fun _ => ?_)) | (with_reducible refine aGd_split (fun _ => ?_) (fun _ => ?_)) | (with_reducible refine aDraw_quiet (by kernel_rfl) ?_)))
        exact hg
      · have d2 : decide (a' < b) = false := by simpa using h2
        (repeat' (first | simp (maxSteps := 5000000) (implicitDefEqProofs := false) only [ruA, ruB, aEv, aBin, bin2, ASt.get, aget, ASt.put, aResL, aOne, ↓reduceIte, reduceCtorEq, Nat.reduceLT, Nat.reduceEqDiff, eq_self, d1, d2] | (with_reducible refine aIf_split (fun _ => ?_) (fun _ => ?_)) | (with_reducible refine aSel_split (fun _ => ?_) (fun _ => ?_)) | (with_reducible refine aGd_split (fun _ => ?_) (fun _ => ?_)) | (with_reducible refine aDraw_quiet (by kernel_rfl) ?_)))
        exact hg
    · have d1 : decide ((k : Int) < m) = false := by simpa using h1
      (repeat' (first | simp (maxSteps := 5000000) (implicitDefEqProofs := false) only [ruA, ruB, aEv, aBin, bin2, ASt.get, aget, ASt.put, aResL, aOne, ↓reduceIte, Nat.reduceLT, Nat.reduceEqDiff, eq_self, d1] | (with_reducible refine aIf_split (fun _ => ?_) (fun _ => ?_)) | (with_reducible refine aSel_split (fun _ => ?_) (fun _ => ?_)) | (with_reducible refine aGd_split (fun _ => ?_) (fun _ => ?_)) | (with_reducible refine aDraw_quiet (by kernel_rfl) ?_)))
      exact hg
set_option maxRecDepth 100000 in
theorem numbers22_A (vals c : List Int) (h1 : vals.length ≤ 400) (h2 : c.length ≤ 400) : ADet Tryz.prog 61 [sI vals, sI c] ⟨sI (numsL vals c), [], 0⟩ := by
  have hok : (⟨sI (numsL vals c), [], 0⟩ : Res).Ok := ⟨fun id o h => (by cases h), by simp [AV.lt]⟩
  refine adet_of_code mixedT Tryz.func61 rfl (by decide) Tryz.ntmps61 Tryz.results61 rfl (hok) ?_
  have hS := refSorted_A (vals ++ c) (by simp; omega)
  have em : (vals.map fun n => [eI n]) ++ (c.map fun n => [eI n]) = (vals ++ c).map fun n => [eI n] := by rw [List.map_append]
  (repeat' (first | simp (maxSteps := 5000000) (implicitDefEqProofs := false) only [ruA, ruB, aEv, ASt.get, aget, ASt.put, aAppend, aBuildSlice, aCells, aLit, aDst, aSrc, appTab, Value.cells, envOf, ↓reduceIte, reduceCtorEq, Nat.reduceLT, Nat.reduceEqDiff, Nat.reduceAdd, Nat.reduceMul, eq_self, aBuildSlice1, frzs, ownIds, tyR_23, em] | (with_reducible refine aIf_split (fun _ => ?_) (fun _ => ?_)) | (with_reducible refine aSel_split (fun _ => ?_) (fun _ => ?_)) | (with_reducible refine aGd_split (fun _ => ?_) (fun _ => ?_)) | (with_reducible refine aDraw_quiet (by kernel_rfl) ?_) | (with_reducible apply And.intro)))
  all_goals first
    | rfl
    | omega
    | skip
  refine callZ [2] (R := ⟨sI (sortR (vals ++ c)), [], 0⟩) ?_ ?_ ?_
  · simp (maxSteps := 5000000) (implicitDefEqProofs := false) only [ruB, ↓reduceIte, reduceCtorEq, Nat.reduceEqDiff, eq_self, dref, frzs, frz1, AV.frz, frzEnv, frzAVs, frzAV, frzTab, AObj.frz]
    exact hS
  · simp (maxSteps := 5000000) (implicitDefEqProofs := false) only [ruB, ↓reduceIte, eq_self, AV.frz, frzAVs, frzAV]
    left
    simp [roL, roA]
  · (repeat' (first | simp (maxSteps := 5000000) (implicitDefEqProofs := false) only [ruA, ruB, aEv, ASt.get, aget, ASt.put, aResL, aOne, ↓reduceIte, reduceCtorEq, Nat.reduceLT, Nat.reduceEqDiff, eq_self, frzs, frz1, AV.frz, frzEnv, AV.shift, frzTab, AObj.frz] | (with_reducible refine aIf_split (fun _ => ?_) (fun _ => ?_)) | (with_reducible refine aSel_split (fun _ => ?_) (fun _ => ?_)) | (with_reducible refine aGd_split (fun _ => ?_) (fun _ => ?_)) | (with_reducible refine aDraw_quiet (by kernel_rfl) ?_)))
    all_goals exact gives_tree (by first | rfl | simp [AV.ren, AV.renL])
end
section
open Go.RowKit
def gapsN (L : List Int) (r : Int) (k : Nat) : List Int := (List.range (k - 1)).map fun i => gapV (L.getD i 0) (L.getD (i + 1) 0) (capV r)
theorem gapsN_snoc (L : List Int) (r : Int) (k : Nat) : gapsN L r (k + 2) = gapsN L r (k + 1) ++ [gapV (L.getD k 0) (L.getD (k + 1) 0) (capV r)] := by
  unfold gapsN
  rw [show k + 2 - 1 = k + 1 by omega, show k + 1 - 1 = k by omega, List.range_succ, List.map_append]
  rfl
def zoneM (vals c : List Int) (r : Int) : Zn := ⟨clsL vals c, gapsN (numsL vals c) r (numsL vals c).length⟩
theorem attrsN_ok (vals : List Int) (n : Int) : ∀ k, ok64 (attrsN vals n k)
  | 0 => by unfold attrsN ok64; omega
  | k + 1 => by
    unfold attrsN
    split
    · exact in31_ok (withB_31 _ _)
    · exact attrsN_ok vals n k
theorem capV_le (r : Int) : capV r ≤ 4294967296 := by
  have h1 : (2 : Nat) ^ (min r.toNat 20) ≤ 2 ^ 20 := Nat.pow_le_pow_right (by omega) (by omega)
  have h2 : ((2 ^ (min r.toNat 20) : Nat) : Int) = (2 : Int) ^ (min r.toNat 20) := by simp
  unfold capV
  omega
set_option maxRecDepth 100000 in
set_option maxHeartbeats 16000000 in
theorem zoneOf_A (vals c : List Int) (r : Int) (h1 : vals.length ≤ 31) (h2 : c.length ≤ 400) (hv : ∀ x ∈ vals, ok64 x) (hc : ∀ x ∈ c, ok64 x) : ADet Tryz.prog 33 [sI vals, sI c, eI r] ⟨.agg (eZn (zoneM vals c r)), [], 0⟩ := by
  refine ADet.still (R := ⟨.agg [.osl 0, .osl 1], [(0, some (.row 63 2 ((clsL vals c).map eCls))), (1, some (.row 3 1 ((gapsN (numsL vals c) r (numsL vals c).length).map fun n => [eI n])))], 2⟩) [0, 1] ?_ (by simp [Res.frzs, Res.frz, ATab.get_cons, AV.frz, AV.frzL, frzTab, AObj.frz, zoneM]) (by simp [AV.lt, AV.ltL])
  refine adet_of_code mixedT Tryz.func33 rfl (by decide) Tryz.ntmps33 Tryz.results33 rfl (tab_ok (by simp [tabLt, AObj.lt]) (by simp [AV.lt, AV.ltL])) ?_
  have hS := refSorted_A c (by omega)
  have hN := numbers22_A vals c (by omega) h2
  have hLlen : (numsL vals c).length ≤ 431 := by have := sortR_len (vals ++ c); simp at this; unfold numsL; omega
  have hSlen : (sortR c).length ≤ 400 := by have := sortR_len c; omega
  have hLok : ∀ x ∈ numsL vals c, ok64 x := fun x hx => by
    have := ((sortR_up (vals ++ c)).2 x).1 hx
    rcases List.mem_append.1 this with h | h
    · exact hv x h
    · exact hc x h
  have hcl : ∀ k, (clsL vals c).take k = ((numsL vals c).take k).map (clsOf vals c) := fun k => by unfold clsL; rw [List.map_take]
  have hgt : decide (31 < (vals.length : Int)) = false := by simp only [decide_eq_false_iff_not]; omega
  have hgt2 : decide (31 < vals.length) = false := by simp only [decide_eq_false_iff_not]; omega
  have hcls : clsL vals c = (numsL vals c).map (clsOf vals c) := rfl
  obtain ⟨cf, hcf⟩ : ∃ f, clsOf vals c = f := ⟨_, rfl⟩
  obtain ⟨sc, hsc⟩ : ∃ sc, sortR c = sc := ⟨_, rfl⟩
  obtain ⟨L, hL⟩ : ∃ L, numsL vals c = L := ⟨_, rfl⟩
  rw [hcls, hcf]
  rw [hsc] at hS hSlen
  rw [hL] at hN hLlen hLok ⊢
  have hcfv : ∀ n, cf n = ⟨attrsN vals n vals.length, constN sc n sc.length⟩ := fun n => by rw [← hcf, ← hsc]; rfl
  (repeat' (first | simp (maxSteps := 5000000) (implicitDefEqProofs := false) only [ruA, ruB, aEv, aLen, aBin, bin2, ASt.get, aget, ASt.put, aBox, aCells, oneC, oneCL, Value.cells, Value.oneCell', envOf, ↓reduceIte, reduceCtorEq, Nat.reduceLT, Nat.reduceEqDiff, Nat.reduceAdd, eq_self, ne_eq, AV.shift, tyZ_36, tyE_23, hgt] | (with_reducible refine aIf_split (fun _ => ?_) (fun _ => ?_)) | (with_reducible refine aSel_split (fun _ => ?_) (fun _ => ?_)) | (with_reducible refine aGd_split (fun _ => ?_) (fun _ => ?_)) | (with_reducible refine aDraw_quiet (by kernel_rfl) ?_) | ((with_reducible apply callT); exact (hS); exact (.inl (by simp [roL, roA]))) | ((with_reducible apply callT); exact (hN); exact (.inl (by simp [roL, roA])))))
  refine aLoop_of (fun st => ∃ k : Nat, k ≤ L.length ∧ st = ⟨94, [(0, sI vals), (2, eI r), (6, .op 0 0 0), (7, sI sc), (8, sI L), (9, .op 1 0 0), (10, eI (k : Int))], [(0, some (.box 36 [.c (.slice none 0 0), .c (.slice none 0 0)])), (1, some (.box 36 [.osl 2, .osl 3])), (2, some (.row 63 2 ((L.take k).map fun n => eCls (cf n)))), (3, some (.row 3 1 ((gapsN L r k).map fun n => [eI n])))], 4⟩) (fun st => L.length - slotN st 10)
    ⟨_, ((weak_nilbox 1 0 63 2 (t := 36) (cells := [.c (.slice none 0 0), .c (.slice none 0 0)]) (by simp [ATab.get_cons]) rfl).trans ((weak_nilbox 1 1 3 1 (t := 36) (cells := [.osl 2, .c (.slice none 0 0)]) (by simp [ATab.get_cons]) rfl).trans (weak_cut1 (by (first | ((simp only [envIn, tabIn, envLt, tabLt, AObj.lt, AV.lt, AV.ltL, ruW, ASt.get, aget, ↓reduceIte, reduceCtorEq, Nat.reduceLT, Nat.reduceEqDiff, Nat.reduceAdd, eq_self, List.set_cons_zero, List.set_cons_succ, List.take_zero, gapsN, List.range_zero, Nat.zero_sub]) <;> (repeat' apply And.intro) <;> first | (rw [wrapK (by omega)]; done) | (simp; done) | omega) | fail))))), 0, Nat.zero_le _, rfl⟩ ?_
  rintro _ ⟨k, hk, rfl⟩
  by_cases hlt : k < L.length
  · obtain ⟨n, hn⟩ : ∃ n, L[k] = n := ⟨_, rfl⟩
    (repeat' (first | simp (maxSteps := 5000000) (implicitDefEqProofs := false) only [ruA, ruB, aEv, aLen, aBin, bin2, ASt.get, aget, ASt.put, aStore, aBox, aBuild, aFill, oneParts, aCells, oneC, oneCL, Value.cells, Value.oneCell', ↓reduceIte, Nat.reduceLT, Nat.reduceEqDiff, Nat.reduceAdd, eq_self, ne_eq, tyE_23, tyB_63, tyZ_63, tyS_63, hlt] | (with_reducible refine aIf_split (fun _ => ?_) (fun _ => ?_)) | (with_reducible refine aSel_split (fun _ => ?_) (fun _ => ?_)) | (with_reducible refine aGd_split (fun _ => ?_) (fun _ => ?_)) | (with_reducible refine aDraw_quiet (by kernel_rfl) ?_)))
    refine aLoop_of (fun st => ∃ i : Nat, i ≤ vals.length ∧ st = ⟨94, [(0, sI vals), (2, eI r), (6, .op 0 0 0), (7, sI sc), (8, sI L), (9, .op 1 0 0), (10, eI (k : Int)), (11, .op 4 0 0), (12, eI (i : Int))], [(0, some (.box 36 [.c (.slice none 0 0), .c (.slice none 0 0)])), (1, some (.box 36 [.osl 2, .osl 3])), (2, some (.row 63 2 ((L.take k).map fun n => eCls (cf n)))), (3, some (.row 3 1 ((gapsN L r k).map fun n => [eI n]))), (4, some (.box 63 [eI (attrsN vals n i), eI (-1)]))], 5⟩) (fun st => vals.length - slotN st 12) ⟨_, (weak_cut1 (by (first | ((simp only [envIn, tabIn, envLt, tabLt, AObj.lt, AV.lt, AV.ltL, ruW, ASt.get, aget, ↓reduceIte, reduceCtorEq, Nat.reduceLT, Nat.reduceEqDiff, eq_self, attrsN]) <;> (repeat' apply And.intro) <;> first | (rw [wrapK (by omega)]; done) | (simp; done) | omega) | fail))), 0, Nat.zero_le _, rfl⟩ ?_
    rintro _ ⟨i, hi, rfl⟩
    by_cases hi2 : i < vals.length
    · have hP := put_A (attrsN vals n i) (i : Int) true (attrsN_ok vals n i) (by omega) (by omega)
      by_cases he : vals[i] = n
      · have hev : (vals[i] == n) = true := by simpa using he
        have hst : attrsN vals n (i + 1) = withB (attrsN vals n i) (i : Int) := by
          rw [attrsN, if_pos (by rw [List.getD_eq_getElem?_getD, List.getElem?_eq_getElem hi2]; exact he)]
        (repeat' (first | simp (maxSteps := 5000000) (implicitDefEqProofs := false) only [ruA, ruB, aEv, aTake, aLoad, aField, aIndex, aLen, aBin, bin2, ASt.get, aget, ASt.put, aStore, aCells, oneC, oneCL, Value.cells, Value.oneCell', ↓reduceIte, reduceCtorEq, Nat.reduceLT, Nat.reduceEqDiff, Nat.reduceAdd, Nat.reduceLeDiff, eq_self, ne_eq, tyE_23, tyA_2, tyS_2, tyF_63_0, tyA_3, tyS_3, row_at, hi2, hlt, hn, hev] | (with_reducible refine aIf_split (fun _ => ?_) (fun _ => ?_)) | (with_reducible refine aSel_split (fun _ => ?_) (fun _ => ?_)) | (with_reducible refine aGd_split (fun _ => ?_) (fun _ => ?_)) | (with_reducible refine aDraw_quiet (by kernel_rfl) ?_) | ((with_reducible apply callV); exact (hP)) | ((with_reducible apply callD); exact (hP))))
        all_goals exact roundI (weak_cut1 (by (first | ((simp only [envIn, tabIn, envLt, tabLt, AObj.lt, AV.lt, AV.ltL, ruW, ASt.get, aget, ↓reduceIte, reduceCtorEq, Nat.reduceLT, Nat.reduceEqDiff, eq_self, hst]) <;> (repeat' apply And.intro) <;> first | (rw [wrapK (by omega)]; done) | (simp; done) | omega) | fail))) ⟨i + 1, by omega, rfl⟩ (by simp only [slotN, ruW, ASt.get, aget, ↓reduceIte, Nat.reduceLT, Nat.reduceEqDiff, eq_self]; omega)
      · have hev : (vals[i] == n) = false := by simpa using he
        have hst : attrsN vals n (i + 1) = attrsN vals n i := by
          rw [attrsN, if_neg (by rw [List.getD_eq_getElem?_getD, List.getElem?_eq_getElem hi2]; exact he)]
        (repeat' (first | simp (maxSteps := 5000000) (implicitDefEqProofs := false) only [ruA, ruB, aEv, aTake, aLoad, aIndex, aLen, aBin, bin2, ASt.get, aget, ASt.put, ↓reduceIte, reduceCtorEq, Nat.reduceLT, Nat.reduceEqDiff, eq_self, ne_eq, tyE_23, tyA_2, tyS_2, row_at, hi2, hlt, hn, hev] | (with_reducible refine aIf_split (fun _ => ?_) (fun _ => ?_)) | (with_reducible refine aSel_split (fun _ => ?_) (fun _ => ?_)) | (with_reducible refine aGd_split (fun _ => ?_) (fun _ => ?_)) | (with_reducible refine aDraw_quiet (by kernel_rfl) ?_)))
        all_goals exact roundI (weak_cut1 (by (first | ((simp only [envIn, tabIn, envLt, tabLt, AObj.lt, AV.lt, AV.ltL, ruW, ASt.get, aget, ↓reduceIte, reduceCtorEq, Nat.reduceLT, Nat.reduceEqDiff, eq_self, hst]) <;> (repeat' apply And.intro) <;> first | (rw [wrapK (by omega)]; done) | (simp; done) | omega) | fail))) ⟨i + 1, by omega, rfl⟩ (by simp only [slotN, ruW, ASt.get, aget, ↓reduceIte, Nat.reduceLT, Nat.reduceEqDiff, eq_self]; omega)
    · obtain rfl : i = vals.length := by omega
      obtain ⟨A, hA⟩ : ∃ A, attrsN vals n vals.length = A := ⟨_, rfl⟩
      rw [hA]
      (repeat' (first | simp (maxSteps := 5000000) (implicitDefEqProofs := false) only [ruA, ruB, aEv, aLen, aBin, bin2, ASt.get, aget, ASt.put, ↓reduceIte, reduceCtorEq, Nat.reduceLT, Nat.reduceEqDiff, eq_self, ne_eq, tyE_23, hi2] | (with_reducible refine aIf_split (fun _ => ?_) (fun _ => ?_)) | (with_reducible refine aSel_split (fun _ => ?_) (fun _ => ?_)) | (with_reducible refine aGd_split (fun _ => ?_) (fun _ => ?_)) | (with_reducible refine aDraw_quiet (by kernel_rfl) ?_)))
      refine aLoop_of (fun st => ∃ i : Nat, i ≤ sc.length ∧ st = ⟨94, [(0, sI vals), (2, eI r), (6, .op 0 0 0), (7, sI sc), (8, sI L), (9, .op 1 0 0), (10, eI (k : Int)), (11, .op 4 0 0), (13, eI (i : Int))], [(0, some (.box 36 [.c (.slice none 0 0), .c (.slice none 0 0)])), (1, some (.box 36 [.osl 2, .osl 3])), (2, some (.row 63 2 ((L.take k).map fun n => eCls (cf n)))), (3, some (.row 3 1 ((gapsN L r k).map fun n => [eI n]))), (4, some (.box 63 [eI A, eI (constN sc n i)]))], 5⟩) (fun st => sc.length - slotN st 13) ⟨_, (weak_cut1 (by (first | ((simp only [envIn, tabIn, envLt, tabLt, AObj.lt, AV.lt, AV.ltL, ruW, ASt.get, aget, ↓reduceIte, reduceCtorEq, Nat.reduceLT, Nat.reduceEqDiff, eq_self, constN]) <;> (repeat' apply And.intro) <;> first | (rw [wrapK (by omega)]; done) | (simp; done) | omega) | fail))), 0, Nat.zero_le _, rfl⟩ ?_
      rintro _ ⟨i, hi, rfl⟩
      by_cases hi3 : i < sc.length
      · by_cases he : sc[i] = n
        · have hev : (sc[i] == n) = true := by simpa using he
          have hst : constN sc n (i + 1) = (i : Int) := by
            rw [constN, if_pos (by rw [List.getD_eq_getElem?_getD, List.getElem?_eq_getElem hi3]; exact he)]
          (repeat' (first | simp (maxSteps := 5000000) (implicitDefEqProofs := false) only [ruA, ruB, aEv, aTake, aLoad, aField, aIndex, aLen, aBin, bin2, ASt.get, aget, ASt.put, aStore, aCells, oneC, oneCL, Value.cells, Value.oneCell', ↓reduceIte, reduceCtorEq, Nat.reduceLT, Nat.reduceEqDiff, Nat.reduceAdd, eq_self, ne_eq, tyE_23, tyA_2, tyS_2, tyS_3, tyF_63_1, row_at, hi3, hlt, hn, hev] | (with_reducible refine aIf_split (fun _ => ?_) (fun _ => ?_)) | (with_reducible refine aSel_split (fun _ => ?_) (fun _ => ?_)) | (with_reducible refine aGd_split (fun _ => ?_) (fun _ => ?_)) | (with_reducible refine aDraw_quiet (by kernel_rfl) ?_)))
          all_goals exact roundI (weak_cut1 (by (first | ((simp only [envIn, tabIn, envLt, tabLt, AObj.lt, AV.lt, AV.ltL, ruW, ASt.get, aget, ↓reduceIte, reduceCtorEq, Nat.reduceLT, Nat.reduceEqDiff, eq_self, hst]) <;> (repeat' apply And.intro) <;> first | (rw [wrapK (by omega)]; done) | (simp; done) | omega) | fail))) ⟨i + 1, by omega, rfl⟩ (by simp only [slotN, ruW, ASt.get, aget, ↓reduceIte, Nat.reduceLT, Nat.reduceEqDiff, eq_self]; omega)
        · have hev : (sc[i] == n) = false := by simpa using he
          have hst : constN sc n (i + 1) = constN sc n i := by
            rw [constN, if_neg (by rw [List.getD_eq_getElem?_getD, List.getElem?_eq_getElem hi3]; exact he)]
          (repeat' (first | simp (maxSteps := 5000000) (implicitDefEqProofs := false) only [ruA, ruB, aEv, aTake, aLoad, aIndex, aLen, aBin, bin2, ASt.get, aget, ASt.put, ↓reduceIte, reduceCtorEq, Nat.reduceLT, Nat.reduceEqDiff, eq_self, ne_eq, tyE_23, tyA_2, tyS_2, row_at, hi3, hlt, hn, hev] | (with_reducible refine aIf_split (fun _ => ?_) (fun _ => ?_)) | (with_reducible refine aSel_split (fun _ => ?_) (fun _ => ?_)) | (with_reducible refine aGd_split (fun _ => ?_) (fun _ => ?_)) | (with_reducible refine aDraw_quiet (by kernel_rfl) ?_)))
          all_goals exact roundI (weak_cut1 (by (first | ((simp only [envIn, tabIn, envLt, tabLt, AObj.lt, AV.lt, AV.ltL, ruW, ASt.get, aget, ↓reduceIte, reduceCtorEq, Nat.reduceLT, Nat.reduceEqDiff, eq_self, hst]) <;> (repeat' apply And.intro) <;> first | (rw [wrapK (by omega)]; done) | (simp; done) | omega) | fail))) ⟨i + 1, by omega, rfl⟩ (by simp only [slotN, ruW, ASt.get, aget, ↓reduceIte, Nat.reduceLT, Nat.reduceEqDiff, eq_self]; omega)
      · obtain rfl : i = sc.length := by omega
        have hx : cf n = ⟨A, constN sc n sc.length⟩ := by rw [hcfv, hA]
        have hsn : (L.take (k + 1)).map (fun n => eCls (cf n)) = (L.take k).map (fun n => eCls (cf n)) ++ [[eI A, eI (constN sc n sc.length)]] := by rw [take_snoc _ L hlt, hn, hx]
        have htl : (L.take k).length ≤ 431 := by rw [List.length_take]; omega
        obtain ⟨C, hC⟩ : ∃ C, constN sc n sc.length = C := ⟨_, rfl⟩
        rw [hC] at hsn ⊢
        cases k with
        | zero =>
          have hg : gapsN L r (0 + 1) = gapsN L r 0 := rfl
          have d1 : decide (0 < ((0 : Nat) : Int)) = false := by decide
          have d2 : decide (0 < 0) = false := by decide
          (repeat' (first | simp (maxSteps := 5000000) (implicitDefEqProofs := false) only [ruA, ruB, aEv, aTake, aLoad, aField, aLen, aBin, bin2, ASt.get, aget, ASt.put, aStore, aAppend, aBuildSlice, aCells, oneC, oneCL, treeC, treeL, aLit, aDst, aSrc, appTab, Value.cells, Value.oneCell', ↓reduceIte, reduceCtorEq, Nat.reduceLT, Nat.reduceEqDiff, Nat.reduceAdd, Nat.reduceMul, Nat.reduceLeDiff, eq_self, ne_eq, aBuildSlice1, frzs, ownIds, tyE_23, tyS_63, tyF_36_0, tyA_33, tyS_33, tyA_63, tyR_33, hi3, d1] | (with_reducible refine aIf_split (fun _ => ?_) (fun _ => ?_)) | (with_reducible refine aSel_split (fun _ => ?_) (fun _ => ?_)) | (with_reducible refine aGd_split (fun _ => ?_) (fun _ => ?_)) | (with_reducible refine aDraw_quiet (by kernel_rfl) ?_) | (with_reducible apply And.intro)))
          all_goals first
            | rfl
            | omega
            | (simp; omega)
            | exact roundI (weak_ren1 [0, 1, 6, 3] ⟨(by decide), (by (first | ((simp only [envInR, tabInR, envLt, tabLt, AObj.lt, AV.lt, AV.ltL, AV.ren, AV.renL, AObj.ren, List.getD_cons_zero, List.getD_cons_succ, List.length_cons, List.length_nil, ruW, ASt.get, aget, ↓reduceIte, reduceCtorEq, Nat.reduceLT, Nat.reduceEqDiff, Nat.reduceAdd, eq_self, hsn, hg]) <;> (repeat' apply And.intro) <;> first | (rw [wrapK (by omega)]; done) | (simp; done) | omega) | fail))⟩) ⟨0 + 1, by omega, rfl⟩ (by simp only [slotN, ruW, ASt.get, aget, ↓reduceIte, Nat.reduceLT, Nat.reduceEqDiff, Nat.reduceAdd, eq_self]; omega)
            | trace_state
        | succ k =>
          have hk0 : k < L.length := by omega
          have hgs := gapsN_snoc L r k
          have e0 : L.getD k 0 = L[k] := by rw [List.getD_eq_getElem?_getD, List.getElem?_eq_getElem hk0]; rfl
          have e1 : L.getD (k + 1) 0 = n := by rw [List.getD_eq_getElem?_getD, List.getElem?_eq_getElem hlt]; exact hn
          rw [e0, e1] at hgs
          have hgl : (gapsN L r (k + 1)).length ≤ 431 := by simp [gapsN]; omega
          have hG := gap_A L[k] n (capV r) (hLok _ (List.getElem_mem hk0)) (hn ▸ hLok _ (List.getElem_mem hlt)) (capV_le r)
          have hCp := cap_A r
          have ek : IntKind.i64.wrap (((k + 1 : Nat) : Int) - 1) = (k : Int) := by rw [wrap_in (by omega) (by omega)]; omega
          have d1 : decide (0 < ((k + 1 : Nat) : Int)) = true := by simp only [decide_eq_true_eq]; omega
          have d2 : decide (0 < k + 1) = true := by simp
          have hgm : (gapsN L r (k + 2)).map (fun n => [eI n]) = (gapsN L r (k + 1)).map (fun n => [eI n]) ++ [[eI (gapV L[k] n (capV r))]] := by rw [hgs]; simp
          (repeat' (first | simp (maxSteps := 5000000) (implicitDefEqProofs := false) only [ruA, ruB, aEv, aLen, aBin, bin2, ASt.get, aget, ASt.put, ↓reduceIte, Nat.reduceLT, Nat.reduceEqDiff, eq_self, ne_eq, tyE_23, hi3, d1] | (with_reducible refine aIf_split (fun _ => ?_) (fun _ => ?_)) | (with_reducible refine aSel_split (fun _ => ?_) (fun _ => ?_)) | (with_reducible refine aGd_split (fun _ => ?_) (fun _ => ?_))))
          refine aDraw_held [1, 3] [0, 2, 3, 4, 5, 6, 7, 8, 9, 10, 11] (.two 1 (.exec 12 (.exec 13 (.exec 14 (.exec 15 (.take 16 (.exec 17 .done)))))) 12 (.two 1 (.exec 13 (.exec 14 (.exec 15 (.take 16 (.exec 17 .done))))) 13 (.two 1 (.exec 14 (.exec 15 (.take 16 (.exec 17 .done)))) 14 (.exec 1 (.exec 15 (.take 16 (.exec 17 .done))))))) (by kernel_rfl) (by simp [ATab.get_cons]) ?_
          (repeat' (first | simp (maxSteps := 5000000) (implicitDefEqProofs := false) only [ruA, ruB, aEv, aTake, aLoad, aField, aIndex, aBin, bin2, ASt.get, aget, ASt.put, aStore, aAppend, aBuildSlice, aCells, oneC, oneCL, treeC, treeL, aLit, aDst, aSrc, appTab, Value.cells, Value.oneCell', ↓reduceIte, reduceCtorEq, Nat.reduceLT, Nat.reduceEqDiff, Nat.reduceAdd, Nat.reduceMul, Nat.reduceLeDiff, eq_self, aExecS, aStoreB, aTakes, aTakeE, aFrom, aFresh, aBuildSlice1, frzs, ownIds, aMay, tyE_23, tyS_63, tyA_2, tyS_2, tyF_36_1, tyA_34, tyS_34, tyR_34, tyF_36_0, tyA_33, tyS_33, tyA_63, tyR_33, row_at, hlt, hk0, hn, ek] | (with_reducible refine aIf_split (fun _ => ?_) (fun _ => ?_)) | (with_reducible refine aSel_split (fun _ => ?_) (fun _ => ?_)) | (with_reducible refine aGd_split (fun _ => ?_) (fun _ => ?_)) | (with_reducible refine aDraw_quiet (by kernel_rfl) ?_) | ((with_reducible apply callV); exact (hCp)) | ((with_reducible apply callD); exact (hCp)) | ((with_reducible apply callV); exact (hG)) | ((with_reducible apply callD); exact (hG)) | (with_reducible apply And.intro)))
          all_goals first
            | rfl
            | omega
            | (simp; omega)
            | exact roundI (weak_ren1 [0, 1, 8, 6] ⟨(by decide), (by (first | ((simp only [envInR, tabInR, envLt, tabLt, AObj.lt, AV.lt, AV.ltL, AV.ren, AV.renL, AObj.ren, List.getD_cons_zero, List.getD_cons_succ, List.length_cons, List.length_nil, ruW, ASt.get, aget, ↓reduceIte, reduceCtorEq, Nat.reduceLT, Nat.reduceEqDiff, Nat.reduceAdd, eq_self, hsn, hgm]) <;> (repeat' apply And.intro) <;> first | (rw [wrapK (by omega)]; done) | (simp; done) | omega) | fail))⟩) ⟨k + 1 + 1, by omega, rfl⟩ (by simp only [slotN, ruW, ASt.get, aget, ↓reduceIte, Nat.reduceLT, Nat.reduceEqDiff, eq_self]; omega)
            | trace_state
  · obtain rfl : k = L.length := by omega
    (repeat' (first | simp (maxSteps := 5000000) (implicitDefEqProofs := false) only [ruA, ruB, aEv, aTake, aLoad, aLen, aBin, bin2, ASt.get, aget, ASt.put, aStore, aCells, oneC, oneCL, aResL, aOne, ↓reduceIte, Nat.reduceLT, Nat.reduceEqDiff, Nat.reduceAdd, eq_self, ne_eq, tyA_36, tyS_36, tyE_23, hlt] | (with_reducible refine aIf_split (fun _ => ?_) (fun _ => ?_)) | (with_reducible refine aSel_split (fun _ => ?_) (fun _ => ?_)) | (with_reducible refine aGd_split (fun _ => ?_) (fun _ => ?_)) | (with_reducible refine aDraw_quiet (by kernel_rfl) ?_)))
    exact ⟨[2, 3], by decide, rfl, by simp [aTabs, ATab.get_cons]⟩
end
section
open Go.RowKit
def orI (a b : Int) : Int := bits .or .i64 a b
theorem withB_nat (a i : Nat) (ha : a < 2 ^ 31) (hi : i < 31) : withB (a : Int) (i : Int) = ((a ||| 2 ^ i : Nat) : Int) := by
  unfold withB
  rw [if_pos (by omega), low_of a ha, Int.toNat_natCast]
theorem orI_with (a i : Nat) (ha : a < 2 ^ 31) (hi : i < 31) : orI (a : Int) (withB 0 (i : Int)) = withB (a : Int) (i : Int) := by
  have h0 := withB_nat 0 i (by decide) hi
  rw [show ((0 : Nat) : Int) = 0 from rfl] at h0
  have hp : 2 ^ i < 2 ^ 31 := Nat.pow_lt_pow_right (by decide) hi
  rw [h0, withB_nat a i ha hi, Nat.zero_or]
  exact or_nat a (2 ^ i) (by omega) (by omega)
theorem orI_zero (i : Nat) (hi : i < 31) : orI 0 (withB 0 (i : Int)) = withB 0 (i : Int) := orI_with 0 i (by decide) hi
theorem orI_zz : orI 0 0 = 0 := by
  have := or_nat 0 0 (by decide) (by decide)
  simpa [orI] using this
def ptsC (sc : List Int) (k : Nat) : List Pt := (List.range k).map fun i => ⟨sc.getD i 0, 0, i, i⟩
def ptsV (vals : List Int) (b k : Nat) : List Pt := (List.range k).map fun i => ⟨vals.getD i 0, withB 0 (i : Int), -1, (b + i : Nat)⟩
theorem ptsC_snoc (sc : List Int) (k : Nat) : ptsC sc (k + 1) = ptsC sc k ++ [⟨sc.getD k 0, 0, k, k⟩] := by simp [ptsC, List.range_succ]
theorem ptsV_snoc (vals : List Int) (b k : Nat) : ptsV vals b (k + 1) = ptsV vals b k ++ [⟨vals.getD k 0, withB 0 (k : Int), -1, (b + k : Nat)⟩] := by simp [ptsV, List.range_succ]
theorem ptsC_len (sc : List Int) (k : Nat) : (ptsC sc k).length = k := by simp [ptsC]
theorem ptsV_len (vals : List Int) (b k : Nat) : (ptsV vals b k).length = k := by simp [ptsV]
def ptsL (vals sc : List Int) : List Pt := ptsC sc sc.length ++ ptsV vals sc.length vals.length
theorem ptsL_tg (vals sc : List Int) : Tg (ptsL vals sc) := by
  refine List.pairwise_append.2 ⟨?_, ?_, ?_⟩
  · exact List.pairwise_map.2 (List.pairwise_lt_range.imp fun {x y} h => by simp; omega)
  · exact List.pairwise_map.2 (List.pairwise_lt_range.imp fun {x y} h => by simp; omega)
  · intro x hx y hy
    obtain ⟨i, hi, rfl⟩ := List.mem_map.1 hx
    obtain ⟨j, hj, rfl⟩ := List.mem_map.1 hy
    simp at hi hj ⊢
    omega
def fil (T : List Pt) (m : Int) : List Pt := T.filter fun p => p.n == m
def valP (T : List Pt) (m : Int) : Pt := ⟨m, (fil T m).foldl (fun a q => orI a q.a) 0, ((fil T m).head?.map (·.c)).getD 0, 0⟩
theorem fil_snoc (T : List Pt) (p : Pt) (m : Int) : fil (T ++ [p]) m = if p.n = m then fil T m ++ [p] else fil T m := by
  unfold fil
  rw [List.filter_append]
  by_cases h : p.n = m
  · rw [if_pos h]
    simp [h]
  · rw [if_neg h]
    simp [h]
theorem valP_other {T : List Pt} {p : Pt} {m : Int} (h : p.n ≠ m) : valP (T ++ [p]) m = valP T m := by
  unfold valP
  rw [fil_snoc, if_neg h]
theorem valP_same {T : List Pt} {p : Pt} (h : ∃ q ∈ T, q.n = p.n) : valP (T ++ [p]) p.n = ⟨p.n, orI (valP T p.n).a p.a, (valP T p.n).c, 0⟩ := by
  obtain ⟨q, hq, hqn⟩ := h
  have hm : q ∈ fil T p.n := List.mem_filter.2 ⟨hq, by simpa using hqn⟩
  unfold valP
  rw [fil_snoc, if_pos rfl, List.foldl_append]
  cases hf : fil T p.n with
  | nil => rw [hf] at hm; cases hm
  | cons y ys => simp
theorem valP_new {T : List Pt} {p : Pt} (h : ∀ q ∈ T, q.n ≠ p.n) (ha : orI 0 p.a = p.a) : valP (T ++ [p]) p.n = ⟨p.n, p.a, p.c, 0⟩ := by
  have hf : fil T p.n = [] := List.filter_eq_nil_iff.2 fun q hq => by simpa using h q hq
  unfold valP
  rw [fil_snoc, if_pos rfl, hf]
  simp [ha]
def Outs (T : List Pt) (o : List Int) : Prop := Up o ∧ (∀ m, m ∈ o ↔ ∃ p ∈ T, p.n = m)
theorem outs_last {S : List Pt} (hS : Srt S) {k : Nat} (hk : k < S.length) {o : List Int} (ho : Outs (S.take k) o) : (∃ o1, o = o1 ++ [S[k].n] ∧ ∀ m ∈ o1, m < S[k].n) ∨ (∀ m ∈ o, m < S[k].n) := by
  have hle : ∀ m ∈ o, m ≤ S[k].n := fun m hm => by
    obtain ⟨p, hp, rfl⟩ := (ho.2 m).1 hm
    obtain ⟨i, hi, rfl⟩ := List.getElem_of_mem hp
    rw [List.length_take] at hi
    rw [List.getElem_take]
    exact n_mono hS (by omega) hk
  rcases List.eq_nil_or_concat o with rfl | ⟨o1, x, rfl⟩
  · exact .inr (by simp)
  · have hup : Up (o1 ++ [x]) := by simpa using ho.1
    have hlt : ∀ m ∈ o1, m < x := fun m hm => (List.pairwise_append.1 hup).2.2 m hm x (by simp)
    by_cases hx : x = S[k].n
    · exact .inl ⟨o1, by simp [hx], fun m hm => hx ▸ hlt m hm⟩
    · have := hle x (by simp)
      exact .inr fun m hm => by
        simp at hm
        rcases hm with hm | rfl
        · have := hlt m hm
          omega
        · omega
theorem outs_same {T : List Pt} {p : Pt} {o1 : List Int} (ho : Outs T (o1 ++ [p.n])) : Outs (T ++ [p]) (o1 ++ [p.n]) := ⟨ho.1, fun m => by
  rw [ho.2 m]
  constructor
  · rintro ⟨q, hq, h⟩
    exact ⟨q, List.mem_append_left _ hq, h⟩
  · rintro ⟨q, hq, rfl⟩
    rcases List.mem_append.1 hq with hq | hq
    · exact ⟨q, hq, rfl⟩
    · obtain rfl : q = p := by simpa using hq
      exact (ho.2 _).1 (by simp)⟩
theorem outs_new {T : List Pt} {p : Pt} {o : List Int} (ho : Outs T o) (h : ∀ m ∈ o, m < p.n) : Outs (T ++ [p]) (o ++ [p.n]) := by
  refine ⟨List.pairwise_append.2 ⟨ho.1, List.pairwise_singleton _ _, fun m hm y hy => ?_⟩, fun m => ?_⟩
  · obtain rfl : y = p.n := by simpa using hy
    exact h m hm
  · rw [List.mem_append, ho.2 m]
    constructor
    · rintro (⟨q, hq, h⟩ | h)
      · exact ⟨q, List.mem_append_left _ hq, h⟩
      · exact ⟨p, by simp, by simpa using (List.mem_singleton.1 h).symm⟩
    · rintro ⟨q, hq, rfl⟩
      rcases List.mem_append.1 hq with hq | hq
      · exact .inl ⟨q, hq, rfl⟩
      · obtain rfl : q = p := by simpa using hq
        exact .inr (by simp)
theorem map_same {T : List Pt} {p : Pt} {o1 : List Int} (ho : Outs T (o1 ++ [p.n])) (h : ∀ m ∈ o1, m < p.n) : (o1 ++ [p.n]).map (valP (T ++ [p])) = o1.map (valP T) ++ [⟨p.n, orI (valP T p.n).a p.a, (valP T p.n).c, 0⟩] := by
  rw [List.map_append]
  congr 1
  · exact List.map_congr_left fun m hm => valP_other (by have := h m hm; omega)
  · rw [List.map_singleton, valP_same ((ho.2 p.n).1 (by simp))]
theorem map_new {T : List Pt} {p : Pt} {o : List Int} (ho : Outs T o) (h : ∀ m ∈ o, m < p.n) (ha : orI 0 p.a = p.a) : (o ++ [p.n]).map (valP (T ++ [p])) = o.map (valP T) ++ [⟨p.n, p.a, p.c, 0⟩] := by
  rw [List.map_append]
  congr 1
  · exact List.map_congr_left fun m hm => valP_other (by have := h m hm; omega)
  · rw [List.map_singleton, valP_new (fun q hq hqn => ?_) ha]
    have := h p.n ((ho.2 _).2 ⟨q, hq, hqn⟩)
    omega
theorem fil_srt {l : List Pt} (h : Tg l) (m : Int) : fil (srt l) m = fil l m := by
  refine ((srt_perm l).filter _).eq_of_pairwise (le := fun x y => x.t < y.t) (fun x y _ _ h1 h2 => by omega) ?_ (List.Pairwise.filter (R := fun x y : Pt => x.t < y.t) _ h)
  refine List.Pairwise.imp_of_mem (fun {x y} hx hy hxy => ?_) (List.Pairwise.filter (fun p => p.n == m) (srt_sorted h.dt))
  have h1 := (List.mem_filter.1 hx).2
  have h2 := (List.mem_filter.1 hy).2
  simp at h1 h2
  unfold ltE at hxy
  omega
theorem attrs_nat (vals : List Int) (m : Int) : ∀ k, k ≤ 31 → ∃ a : Nat, attrsN vals m k = (a : Int) ∧ a < 2 ^ 31
  | 0, _ => ⟨0, rfl, by decide⟩
  | k + 1, hk => by
    obtain ⟨a, ha, hlt⟩ := attrs_nat vals m k (by omega)
    unfold attrsN
    split
    · exact ⟨a ||| 2 ^ k, by rw [ha, withB_nat a k hlt (by omega)], Nat.or_lt_two_pow hlt (Nat.pow_lt_pow_right (by decide) (by omega))⟩
    · exact ⟨a, ha, hlt⟩
theorem fold_V (vals : List Int) (b : Nat) (m : Int) : ∀ k, k ≤ 31 → (fil (ptsV vals b k) m).foldl (fun a q => orI a q.a) 0 = attrsN vals m k
  | 0, _ => rfl
  | k + 1, hk => by
    have ih := fold_V vals b m k (by omega)
    obtain ⟨a, ha, hlt⟩ := attrs_nat vals m k (by omega)
    rw [ptsV_snoc, fil_snoc]
    unfold attrsN
    by_cases h : vals.getD k 0 = m
    · rw [if_pos h, if_pos h, List.foldl_append, ih]
      simp only [List.foldl_cons, List.foldl_nil]
      rw [ha, orI_with a k hlt (by omega)]
    · rw [if_neg h, if_neg h, ih]
theorem fold_C (sc : List Int) (m : Int) : ∀ k, (fil (ptsC sc k) m).foldl (fun a q => orI a q.a) 0 = 0
  | 0 => rfl
  | k + 1 => by
    have ih := fold_C sc m k
    rw [ptsC_snoc, fil_snoc]
    split
    · rw [List.foldl_append, ih]
      simp [orI_zz]
    · exact ih
theorem fil_C {sc : List Int} (hup : Up sc) (m : Int) : ∀ k, k ≤ sc.length → (fil (ptsC sc k) m = [] ∧ constN sc m k = -1) ∨ ∃ i : Nat, ∃ h : i < sc.length, i < k ∧ fil (ptsC sc k) m = [⟨sc[i], 0, i, i⟩] ∧ constN sc m k = (i : Int) ∧ sc[i] = m
  | 0, _ => .inl ⟨rfl, rfl⟩
  | k + 1, hk => by
    have hk' : k < sc.length := by omega
    have hg : sc.getD k 0 = sc[k] := by rw [List.getD_eq_getElem?_getD, List.getElem?_eq_getElem hk']; rfl
    rw [ptsC_snoc, fil_snoc]
    unfold constN
    simp only [hg]
    by_cases h : sc[k] = m
    · rw [if_pos h, if_pos h]
      right
      refine ⟨k, hk', by omega, ?_, rfl, h⟩
      rcases fil_C hup m k (by omega) with ⟨h1, _⟩ | ⟨i, hi, hik, _, _, h2⟩
      · rw [h1]
        rfl
      · have := List.pairwise_iff_getElem.1 hup i k hi hk' hik
        omega
    · rw [if_neg h, if_neg h]
      rcases fil_C hup m k (by omega) with h1 | ⟨i, hi, hik, h1⟩
      · exact .inl h1
      · exact .inr ⟨i, hi, by omega, h1⟩
theorem mem_pts (vals sc : List Int) (m : Int) : (∃ p ∈ ptsL vals sc, p.n = m) ↔ m ∈ sc ∨ m ∈ vals := by
  have key : ∀ (l : List Int) (m : Int), (∃ i, i < l.length ∧ l.getD i 0 = m) ↔ m ∈ l := fun l m => by
    constructor
    · rintro ⟨i, hi, rfl⟩
      rw [List.getD_eq_getElem?_getD, List.getElem?_eq_getElem hi]
      exact List.getElem_mem hi
    · intro h
      obtain ⟨i, hi, rfl⟩ := List.getElem_of_mem h
      exact ⟨i, hi, by rw [List.getD_eq_getElem?_getD, List.getElem?_eq_getElem hi]; rfl⟩
  rw [← key sc, ← key vals]
  constructor
  · rintro ⟨p, hp, rfl⟩
    rcases List.mem_append.1 hp with hp | hp
    · obtain ⟨i, hi, rfl⟩ := List.mem_map.1 hp
      exact .inl ⟨i, by simpa using hi, rfl⟩
    · obtain ⟨i, hi, rfl⟩ := List.mem_map.1 hp
      exact .inr ⟨i, by simpa using hi, rfl⟩
  · rintro (⟨i, hi, rfl⟩ | ⟨i, hi, rfl⟩)
    · exact ⟨_, List.mem_append_left _ (List.mem_map.2 ⟨i, by simpa using hi, rfl⟩), rfl⟩
    · exact ⟨_, List.mem_append_right _ (List.mem_map.2 ⟨i, by simpa using hi, rfl⟩), rfl⟩
theorem outs_nums {vals c o : List Int} (ho : Outs (srt (ptsL vals (sortR c))) o) : o = numsL vals c := by
  refine up_ext _ _ ho.1 (sortR_up _).1 fun m => ?_
  rw [ho.2 m]
  unfold numsL
  rw [(sortR_up (vals ++ c)).2 m, List.mem_append]
  have h1 : (∃ p ∈ srt (ptsL vals (sortR c)), p.n = m) ↔ ∃ p ∈ ptsL vals (sortR c), p.n = m := by simp only [srt_mem]
  rw [h1, mem_pts, (sortR_up c).2 m]
  exact Or.comm
theorem valP_cls {vals c : List Int} (hv : vals.length ≤ 31) {m : Int} (hm : m ∈ numsL vals c) : valP (srt (ptsL vals (sortR c))) m = ⟨m, (clsOf vals c m).attrs, (clsOf vals c m).const, 0⟩ := by
  have hup := (sortR_up c).1
  unfold valP clsOf
  rw [fil_srt (ptsL_tg vals (sortR c)) m]
  unfold ptsL
  rw [show fil (ptsC (sortR c) (sortR c).length ++ ptsV vals (sortR c).length vals.length) m = fil (ptsC (sortR c) (sortR c).length) m ++ fil (ptsV vals (sortR c).length vals.length) m from List.filter_append .., List.foldl_append, fold_C, fold_V _ _ _ _ hv]
  congr 1
  rcases fil_C hup m _ (Nat.le_refl _) with ⟨h1, h2⟩ | ⟨i, hi, _, h1, h2, _⟩
  · rw [h1, h2]
    cases hf : fil (ptsV vals (sortR c).length vals.length) m with
    | nil =>
      have hno : ¬ ∃ p ∈ ptsL vals (sortR c), p.n = m := by
        rintro ⟨p, hp, hpn⟩
        rcases List.mem_append.1 hp with hp | hp
        · have : p ∈ fil (ptsC (sortR c) (sortR c).length) m := List.mem_filter.2 ⟨hp, by simpa using hpn⟩
          rw [h1] at this
          cases this
        · have : p ∈ fil (ptsV vals (sortR c).length vals.length) m := List.mem_filter.2 ⟨hp, by simpa using hpn⟩
          rw [hf] at this
          cases this
      rw [mem_pts, (sortR_up c).2 m] at hno
      have := ((sortR_up (vals ++ c)).2 m).1 hm
      rw [List.mem_append] at this
      exact absurd this.symm hno
    | cons q qs =>
      have hq : q ∈ fil (ptsV vals (sortR c).length vals.length) m := by rw [hf]; simp
      obtain ⟨i, _, rfl⟩ := List.mem_map.1 (List.mem_filter.1 hq).1
      rfl
  · rw [h1, h2]
    rfl
theorem outs_all {vals c o : List Int} (hv : vals.length ≤ 31) (ho : Outs (srt (ptsL vals (sortR c))) o) : o.map (valP (srt (ptsL vals (sortR c)))) = (numsL vals c).map fun m => ⟨m, (clsOf vals c m).attrs, (clsOf vals c m).const, 0⟩ := by
  rw [outs_nums ho]
  exact List.map_congr_left fun m hm => valP_cls hv hm
theorem pts_a {vals sc : List Int} (hv : vals.length ≤ 31) : ∀ p ∈ ptsL vals sc, orI 0 p.a = p.a := fun p hp => by
  rcases List.mem_append.1 hp with hp | hp
  · obtain ⟨i, _, rfl⟩ := List.mem_map.1 hp
    exact orI_zz
  · obtain ⟨i, hi, rfl⟩ := List.mem_map.1 hp
    exact orI_zero i (by simp at hi; omega)
end
end Go.Proofs.YtbahakgmbceflaaGreat
