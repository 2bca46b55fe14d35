/-
  Parts of the proof: ZU, ZV, ZX, ZW, ZP.
-/
import Derived.Test.YtbahakgmbceflaaGreatNsm10
set_option linter.unusedVariables false
set_option linter.unusedSimpArgs false
namespace Go.Proofs.YtbahakgmbceflaaGreat
section
open Go.RowKit
theorem smp_numD {g A A' : List Int} {w q : Nat} (hs : SmpOk g A) (hA : -4398046511104 ≤ A.getD q 0 ∧ A.getD q 0 ≤ 4398046511104) (h : DnP g w q A A') {i : Nat} (hi : w ≤ i) (hiq : i ≤ q) (hq : q ≤ 64) :
    -4611686018427387904 ≤ A'.getD i 0 ∧ A'.getD i 0 ≤ 4611686018427387904 := by
  have h1 := h.bound 1048576 hs.gap (q - i) (by omega) (by omega)
  rw [show q - (q - i) = i by omega] at h1
  omega
def slotZ (st : ASt) (t : Nat) : Nat := match st.get t with | .c (.int _ n) => (n + 1).toNat | _ => 0
def WdP (g : List Int) (cap : Int) (p i q w : Nat) : Prop := (w = q ∧ ∀ j, p ≤ j → j < i → g.getD j 0 ≠ cap) ∨ (p < w ∧ w ≤ i ∧ g.getD (w - 1) 0 = cap)
mutual
theorem ren_shift {n k : Nat} {L : List Nat} (hl : ∀ id, id < n → L.getD id 0 = id + k) : ∀ {av : AV}, av.lt n → av.ren L = av.shift k
  | .osl id, h => by rw [AV.shift, AV.ren, hl id h]
  | .op id i j, h => by rw [AV.shift, AV.ren, hl id h]
  | .agg cs, h => by rw [AV.shift, AV.ren, ren_shiftL hl h]
  | .tup cs, h => by rw [AV.shift, AV.ren, ren_shiftL hl h]
  | .fn f cs, h => by rw [AV.shift, AV.ren, ren_shiftL hl h]
  | .any, _ => rfl
  | .c _, _ => rfl
  | .sl _ _, _ => rfl
  | .rp _, _ => rfl
theorem ren_shiftL {n k : Nat} {L : List Nat} (hl : ∀ id, id < n → L.getD id 0 = id + k) : ∀ {l : List AV}, AV.ltL n l → AV.renL L l = AV.shiftL k l
  | [], _ => rfl
  | a :: l, h => by rw [AV.shiftL, AV.renL, ren_shift hl h.1, ren_shiftL hl h.2]
end
theorem ren_shiftE {n k : Nat} {L : List Nat} (hl : ∀ id, id < n → L.getD id 0 = id + k) : ∀ {l : List (Nat × AV)}, envLt n l → renEnv L l = shiftEnv k l
  | [], _ => rfl
  | (t, a) :: l, h => by rw [shiftEnv, renEnv, ren_shift hl h.1, ren_shiftE hl h.2]
mutual
theorem shift_zero : ∀ (av : AV), av.shift 0 = av
  | .osl id => rfl
  | .op id i j => rfl
  | .agg cs => by rw [AV.shift, shift_zeroL]
  | .tup cs => by rw [AV.shift, shift_zeroL]
  | .fn f cs => by rw [AV.shift, shift_zeroL]
  | .any => rfl
  | .c _ => rfl
  | .sl _ _ => rfl
  | .rp _ => rfl
theorem shift_zeroL : ∀ (l : List AV), AV.shiftL 0 l = l
  | [] => rfl
  | a :: l => by rw [AV.shiftL, shift_zero, shift_zeroL]
end
theorem shift_zeroE : ∀ (l : List (Nat × AV)), shiftEnv 0 l = l
  | [] => rfl
  | (t, a) :: l => by rw [shiftEnv, shift_zero, shift_zeroE]
theorem env_same {env : List (Nat × AV)} (h : envLt 3 env) : renEnv [0, 1, 2, 4, 5] env = env := by
  rw [ren_shiftE (n := 3) (k := 0) (fun id hid => by match id, hid with | 0, _ => rfl | 1, _ => rfl | 2, _ => rfl) h, shift_zeroE]
theorem env_up5 {env : List (Nat × AV)} (h : envLt 3 env) : renEnv [5, 6, 7, 100, 8] env = shiftEnv 5 env :=
  ren_shiftE (n := 3) (fun id hid => by match id, hid with | 0, _ => rfl | 1, _ => rfl | 2, _ => rfl) h
set_option maxRecDepth 100000 in
set_option maxHeartbeats 16000000 in
theorem down_I {st : ASt} {K : AV → ASt → Prop} {b a x2 x3 : Nat} {ts : List Nat} {env : List (Nat × AV)} {o2 o3 : Option AObj} {X : List (List AV)} {g : List Int} {cap : Int} {A : List Int} (q : Nat) (h : SmpAt st b a x2 x3 ts env o2 o3 X g cap A) (hs : SmpOk g A) (hq : q < A.length)
    (hA : -4398046511104 ≤ A.getD q 0 ∧ A.getD q 0 ≤ 4398046511104)
    (hk : ∀ vs A', DnP g 0 q A A' → K (.tup []) (smpSt st.n st.next vs env o2 o3 X g cap A')) :
    aInl Tryz.prog st 53 [.op b 0 0, eI (q : Int)] K := by
  refine inl_of_scz Tryz.func53 rfl (by decide) Tryz.ntmps53 Tryz.results53 rfl 4 ts fun vs => SCZ.weak (smp_weak h vs (rest := [.int .i64 (q : Int)]) (by simp)) (scz_of mixedT (by kernel_rfl) ?_)
  have hT := smp_lt h vs
  have hk := hk vs
  have hlen := hs.len
  have hfew := hs.few
  have w1 : IntKind.i64.wrap ((q : Int) - 1) = (q : Int) - 1 := by rw [wrap_in (by omega) (by omega)]
  (repeat' (first | simp (maxSteps := 5000000) (implicitDefEqProofs := false) only [ruA, ruB, aEv, aBin, bin2, ASt.get, aget, ASt.put, envOf, ↓reduceIte, Nat.reduceLT, eq_self, w1] | (with_reducible refine aIf_split (fun _ => ?_) (fun _ => ?_)) | (with_reducible refine aSel_split (fun _ => ?_) (fun _ => ?_)) | (with_reducible refine aGd_split (fun _ => ?_) (fun _ => ?_))))
  refine aLoop_of (fun st => ∃ (w : Nat) (A' : List Int), w ≤ q ∧ DnP g w q A A' ∧ st = ⟨37, [(0, .op 0 0 0), (4, eI ((w : Int) - 1))], [(0, sBox X g cap 1), (1, sRow A'), (2, o2), (3, o3), (4, some (.ghost vs env))], 5⟩) (fun st => slotZ st 4) ⟨_, (weak_cut1 (by (first | ((simp only [envIn, tabIn, envLt, tabLt, AObj.lt, AV.lt, AV.ltL, ruW, ASt.get, aget, ↓reduceIte, reduceCtorEq, Nat.reduceLT, Nat.reduceEqDiff, eq_self, hT]) <;> (repeat' apply And.intro) <;> first | (rw [wrapK (by omega)]; done) | (simp; done) | omega) | fail))), q, A, Nat.le_refl _, DnP.start g q A, rfl⟩ ?_
  rintro _ ⟨w, A', hwq, hD, rfl⟩
  cases w with
  | zero =>
    have d1 : decide (0 ≤ ((0 : Nat) : Int) - 1) = false := rfl
    (repeat' (first | simp (maxSteps := 5000000) (implicitDefEqProofs := false) only [ruA, ruB, aEv, aBin, bin2, ASt.get, aget, ASt.put, ↓reduceIte, Nat.reduceLT, eq_self, d1] | (with_reducible refine aIf_split (fun _ => ?_) (fun _ => ?_)) | (with_reducible refine aSel_split (fun _ => ?_) (fun _ => ?_)) | (with_reducible refine aGd_split (fun _ => ?_) (fun _ => ?_))))
    exact ⟨rfl, hk A' hD⟩
  | succ k =>
    have hst := hD.step (by omega) (by omega)
    obtain ⟨b1, b2⟩ := smp_numD hs hA hD (i := k + 1) (by omega) (by omega) (by omega)
    obtain ⟨g1, g2⟩ := hs.gap k
    have hl' : A'.length = A.length := hD.1
    have i1 : k + 1 < A'.length := by omega
    have i2 : k < g.length := by omega
    have i3 : k < A'.length := by omega
    rw [gD_at i1, gD_at i2] at hst
    rw [gD_at i1] at b1 b2
    rw [gD_at i2] at g1 g2
    generalize hx : A'[k + 1] = x at *
    generalize hy : g[k] = y at *
    have f0 : ((k + 1 : Nat) : Int) - 1 = (k : Int) := by omega
    have w2 : IntKind.i64.wrap ((k : Int) + 1) = ((k + 1 : Nat) : Int) := wrapK (by omega)
    have w3 : IntKind.i64.wrap (0 - y) = -y := by rw [wrap_in (by omega) (by omega)]; omega
    have w4 : IntKind.i64.wrap (-y - 1) = -y - 1 := wrap_in (by omega) (by omega)
    have w5 : IntKind.i64.wrap ((k : Int) - 1) = (k : Int) - 1 := wrap_in (by omega) (by omega)
    have d1 : decide (0 ≤ (k : Int)) = true := decide_eq_true (by omega)
    have hset : (A'.map fun n : Int => [eI n]).set k [eI (x + (-y - 1))] = (A'.set k (x + (-y - 1))).map fun n => [eI n] := List.map_set.symm
    (repeat' (first | simp (maxSteps := 5000000) (implicitDefEqProofs := false) only [ruA, ruB, aEv, aBin, bin2, ASt.get, aget, ASt.put, ↓reduceIte, Nat.reduceLT, eq_self, f0] | (with_reducible refine aIf_split (fun _ => ?_) (fun _ => ?_)) | (with_reducible refine aSel_split (fun _ => ?_) (fun _ => ?_)) | (with_reducible refine aGd_split (fun _ => ?_) (fun _ => ?_))))
    refine aDraw_held [1] [0, 1, 2, 3, 4, 5, 6, 7, 8, 9, 10, 11, 12, 14, 15, 16, 17, 18, 19, 20, 21, 22, 23] (.exec 13 (.exec 24 (.take 25 (.exec 26 .done)))) (by kernel_rfl) (by simp [ATab.get_cons]) ?_
    (repeat' (first | simp (maxSteps := 5000000) (implicitDefEqProofs := false) only [ruA, ruB, aEv, aTake, aLoad, aField, aIndex, aBin, bin2, aUn, un1, ASt.get, aget, ASt.put, aCells, oneC, oneCL, treeC, treeL, Value.cells, Value.oneCell', ↓reduceIte, reduceCtorEq, Nat.reduceLT, Nat.reduceEqDiff, Nat.reduceAdd, Nat.reduceLeDiff, eq_self, aExecS, aStoreB, aTakes, aTakeE, aFrom, aMay, aNil, tyF_102_2, tyA_23, tyS_23, tyE_23, tyA_2, tyS_2, tyF_102_0, tyF_36_1, tyA_34, tyS_34, tyE_34, tyA_3, tyS_3, row_at, i1, i2, i3, hx, hy, w2, w3, w4, w5, hset, Int.natCast_nonneg, Int.ofNat_lt] | (with_reducible refine aIf_split (fun _ => ?_) (fun _ => ?_)) | (with_reducible refine aSel_split (fun _ => ?_) (fun _ => ?_)) | (with_reducible refine aGd_split (fun _ => ?_) (fun _ => ?_)) | (with_reducible refine aDraw_quiet (by kernel_rfl) ?_) | (((with_reducible apply callSame); refine add_S x (-y - 1) ⟨by omega, by omega⟩ ⟨by omega, by omega⟩ ⟨by omega, by omega⟩ rfl ?_))))
    all_goals exact roundI (weak_cut1 (by (first | ((simp only [envIn, tabIn, envLt, tabLt, AObj.lt, AV.lt, AV.ltL, ruW, ASt.get, aget, ↓reduceIte, reduceCtorEq, Nat.reduceLT, Nat.reduceEqDiff, eq_self, hT]) <;> (repeat' apply And.intro) <;> first | (rw [wrapK (by omega)]; done) | (simp; done) | omega) | fail))) ⟨k, A'.set k (x + (-y - 1)), by omega, hst, rfl⟩ (by first | (show ((k : Int) - 1 + 1).toNat < (((k + 1 : Nat) : Int) - 1 + 1).toNat; omega) | (show ((k : Int) - 1 + 1).toNat < ((k : Int) + 1).toNat; omega))
end
section
open Go.RowKit
abbrev zBox (X : List (List AV)) (g : List Int) : Option AObj := some (.box 36 [.sl 2 X, sI g])
theorem WdP.start (g : List Int) (cap : Int) (p q : Nat) : WdP g cap p p q q := .inl ⟨rfl, fun j h1 h2 => by omega⟩
theorem WdP.hit {g : List Int} {cap : Int} {p i q w : Nat} (h : WdP g cap p i q w) (hp : p ≤ i) (hc : g.getD i 0 = cap) : WdP g cap p (i + 1) q (i + 1) := .inr ⟨by omega, Nat.le_refl _, hc⟩
theorem WdP.miss {g : List Int} {cap : Int} {p i q w : Nat} (h : WdP g cap p i q w) (hp : p ≤ i) (hc : g.getD i 0 ≠ cap) : WdP g cap p (i + 1) q w := by
  rcases h with ⟨h1, h2⟩ | ⟨h1, h2, h3⟩
  · refine .inl ⟨h1, fun j h3 h4 => ?_⟩
    rcases Nat.lt_or_ge j i with h5 | h5
    · exact h2 j h3 h5
    · obtain rfl : j = i := by omega
      exact hc
  · exact .inr ⟨h1, by omega, h3⟩
set_option maxRecDepth 100000 in
set_option maxHeartbeats 16000000 in
theorem between_I {st : ASt} {K : AV → ASt → Prop} {b a x2 x3 : Nat} {ts : List Nat} {env : List (Nat × AV)} {X : List (List AV)} {g : List Int} {cap : Int} {A : List Int} (p q : Nat) (h : SmpAt st b a x2 x3 ts env (zBox X g) none X g cap A) (hel3 : envLt 3 env) (hs : SmpOk g A) (hpq : p < q) (hq : q < A.length)
    (hA : -4398046511104 ≤ A.getD p 0 ∧ A.getD p 0 ≤ 4398046511104) (hA2 : -4398046511104 ≤ A.getD q 0 ∧ A.getD q 0 ≤ 4398046511104)
    (hk : ∀ vs w A1 A', WdP g cap p q q w → UpP g p (max w (p + 1)) A A1 → DnP g w q A1 A' → K (.tup []) (smpSt st.n st.next vs env (zBox X g) none X g cap A')) :
    aInl Tryz.prog st 54 [.op b 0 0, eI (p : Int), eI (q : Int)] K := by
  refine inl_of_scz Tryz.func54 rfl (by decide) Tryz.ntmps54 Tryz.results54 rfl 4 ts fun vs => SCZ.weak (smp_weak h vs (rest := [.int .i64 (p : Int), .int .i64 (q : Int)]) (by simp)) (scz_of mixedT (by kernel_rfl) ?_)
  have hT := smp_lt h vs
  have hT2 : envLt 5 env := h.el
  have hk := hk vs
  have hlen := hs.len
  have hfew := hs.few
  (repeat' (first | simp (maxSteps := 5000000) (implicitDefEqProofs := false) only [ruA, ruB, aEv, ASt.get, aget, ASt.put, envOf, ↓reduceIte, Nat.reduceLT, Nat.reduceEqDiff, Nat.reduceAdd, eq_self] | (with_reducible refine aIf_split (fun _ => ?_) (fun _ => ?_)) | (with_reducible refine aSel_split (fun _ => ?_) (fun _ => ?_)) | (with_reducible refine aGd_split (fun _ => ?_) (fun _ => ?_))))
  refine aLoop_of (fun st => ∃ (i w : Nat), p ≤ i ∧ i ≤ q ∧ WdP g cap p i q w ∧ st = ⟨68, [(0, .op 0 0 0), (1, eI (p : Int)), (2, eI (q : Int)), (6, eI (w : Int)), (7, eI (i : Int))], [(0, sBox X g cap 1), (1, sRow A), (2, zBox X g), (3, none), (4, some (.ghost vs env))], 5⟩) (fun st => q - slotN st 7) ⟨_, (weak_cut1 (by (first | ((simp only [envIn, tabIn, envLt, tabLt, AObj.lt, AV.lt, AV.ltL, ruW, ASt.get, aget, ↓reduceIte, reduceCtorEq, Nat.reduceLT, Nat.reduceEqDiff, eq_self, hT2]) <;> (repeat' apply And.intro) <;> first | (rw [wrapK (by omega)]; done) | (simp; done) | omega) | fail))), p, q, Nat.le_refl _, by omega, WdP.start g cap p q, rfl⟩ ?_
  rintro _ ⟨i, w, hpi, hiq, hW, rfl⟩
  by_cases hlt : i < q
  · have i1 : i < g.length := by omega
    have hh := fun hc => hW.hit hpi hc
    have hm := fun hc => hW.miss hpi hc
    rw [gD_at i1] at hh hm
    generalize hx : g[i] = x at *
    have w4 : IntKind.i64.wrap ((i : Int) + 1) = ((i + 1 : Nat) : Int) := wrapK (by omega)
    have d1 : decide (i < q) = true := decide_eq_true hlt
    by_cases hc : x = cap
    · have b1 : (x == cap) = true := by simpa using hc
      (repeat' (first | simp (maxSteps := 5000000) (implicitDefEqProofs := false) only [ruA, ruB, aEv, aTake, aLoad, aField, aIndex, aBin, bin2, ASt.get, aget, ASt.put, ↓reduceIte, reduceCtorEq, Nat.reduceLT, Nat.reduceEqDiff, Nat.reduceAdd, Nat.reduceLeDiff, eq_self, aNil, tyF_102_0, tyF_36_1, tyA_34, tyS_34, tyE_34, tyA_3, tyS_3, tyF_102_1, row_at, i1, hx, d1, b1, w4, Int.natCast_nonneg, Int.ofNat_lt] | (with_reducible refine aIf_split (fun _ => ?_) (fun _ => ?_)) | (with_reducible refine aSel_split (fun _ => ?_) (fun _ => ?_)) | (with_reducible refine aGd_split (fun _ => ?_) (fun _ => ?_)) | (with_reducible refine aDraw_quiet (by kernel_rfl) ?_)))
      all_goals exact roundI (weak_cut1 (by (first | ((simp only [envIn, tabIn, envLt, tabLt, AObj.lt, AV.lt, AV.ltL, ruW, ASt.get, aget, ↓reduceIte, reduceCtorEq, Nat.reduceLT, Nat.reduceEqDiff, eq_self, hT2]) <;> (repeat' apply And.intro) <;> first | (rw [wrapK (by omega)]; done) | (simp; done) | omega) | fail))) ⟨i + 1, i + 1, by omega, by omega, hh hc, rfl⟩ (by simp only [slotN, ruW, ASt.get, aget, ↓reduceIte, Nat.reduceLT, Nat.reduceEqDiff, eq_self]; omega)
    · have b1 : (x == cap) = false := by simpa using hc
      (repeat' (first | simp (maxSteps := 5000000) (implicitDefEqProofs := false) only [ruA, ruB, aEv, aTake, aLoad, aField, aIndex, aBin, bin2, ASt.get, aget, ASt.put, ↓reduceIte, reduceCtorEq, Nat.reduceLT, Nat.reduceEqDiff, Nat.reduceAdd, Nat.reduceLeDiff, eq_self, aNil, tyF_102_0, tyF_36_1, tyA_34, tyS_34, tyE_34, tyA_3, tyS_3, tyF_102_1, row_at, i1, hx, d1, b1, w4, Int.natCast_nonneg, Int.ofNat_lt] | (with_reducible refine aIf_split (fun _ => ?_) (fun _ => ?_)) | (with_reducible refine aSel_split (fun _ => ?_) (fun _ => ?_)) | (with_reducible refine aGd_split (fun _ => ?_) (fun _ => ?_)) | (with_reducible refine aDraw_quiet (by kernel_rfl) ?_)))
      all_goals exact roundI (weak_cut1 (by (first | ((simp only [envIn, tabIn, envLt, tabLt, AObj.lt, AV.lt, AV.ltL, ruW, ASt.get, aget, ↓reduceIte, reduceCtorEq, Nat.reduceLT, Nat.reduceEqDiff, eq_self, hT2]) <;> (repeat' apply And.intro) <;> first | (rw [wrapK (by omega)]; done) | (simp; done) | omega) | fail))) ⟨i + 1, w, by omega, by omega, hm hc, rfl⟩ (by simp only [slotN, ruW, ASt.get, aget, ↓reduceIte, Nat.reduceLT, Nat.reduceEqDiff, eq_self]; omega)
  obtain rfl : i = q := by omega
  have d1 : decide (i < i) = false := by simp
  have hwq : p < w ∧ w ≤ i := by rcases hW with ⟨h1, _⟩ | ⟨h1, h2, _⟩ <;> omega
  (repeat' (first | simp (maxSteps := 5000000) (implicitDefEqProofs := false) only [ruA, ruB, aEv, aBin, bin2, ASt.get, aget, ASt.put, ↓reduceIte, reduceCtorEq, Nat.reduceLT, Nat.reduceEqDiff, eq_self, d1] | (with_reducible refine aIf_split (fun _ => ?_) (fun _ => ?_)) | (with_reducible refine aSel_split (fun _ => ?_) (fun _ => ?_)) | (with_reducible refine aGd_split (fun _ => ?_) (fun _ => ?_))))
  refine callI ?_
  refine up_I (b := 0) (a := 1) (x2 := 2) (x3 := 4) (ts := [0, 1, 2, 6]) (env := [(0, .op 0 0 0), (1, eI (p : Int)), (2, eI (i : Int)), (6, eI (w : Int))]) (o2 := zBox X g) (o3 := some (.ghost vs env)) (X := X) (g := g) (cap := cap) (A := A) p w ⟨rfl, rfl, fun o e => by cases e; exact ⟨rfl, trivial, trivial, trivial⟩, fun o e => by cases e; exact ⟨by show _ = some (AObj.ghost vs (renEnv [0, 1, 2, 4, 5] env)); rw [env_same hel3]; rfl, hT2⟩, by simp, rfl, ⟨by show (0 : Nat) < 5; omega, trivial, trivial, trivial, trivial⟩⟩ hs (by omega) (by omega) hA fun vs2 A1 hU => ?_
  have w5 : IntKind.i64.wrap ((i : Int) - 1) = (i : Int) - 1 := wrap_in (by omega) (by omega)
  have hmx : max w (p + 1) = w := by omega
  have hl1 : A1.length = A.length := hU.1
  have hA1 : A1.getD i 0 = A.getD i 0 := hU.2.1 i (by omega)
  rw [← hA1] at hA2
  have hs1 : SmpOk g A1 := ⟨by omega, by omega, hs.gap⟩
  have he5 := env_up5 hel3
  (repeat' (first | simp (maxSteps := 5000000) (implicitDefEqProofs := false) only [ruA, ruB, aEv, aBin, bin2, ASt.get, aget, ASt.put, ↓reduceIte, Nat.reduceLT, Nat.reduceEqDiff, Nat.reduceAdd, eq_self, AV.shift, AV.shiftL, smpSt, w5, shiftT_nil, shiftT_some, AObj.shift, shiftEnv] | (with_reducible refine aIf_split (fun _ => ?_) (fun _ => ?_)) | (with_reducible refine aSel_split (fun _ => ?_) (fun _ => ?_)) | (with_reducible refine aGd_split (fun _ => ?_) (fun _ => ?_)) | (with_reducible refine aDraw_quiet (by kernel_rfl) ?_)))
  refine aLoop_of (fun st => ∃ (k : Nat) (A' : List Int), w ≤ k ∧ k ≤ i ∧ DnP g k i A1 A' ∧ st = ⟨68, [(0, .op 0 0 0), (6, eI (w : Int)), (8, eI ((k : Int) - 1))], [(0, sBox X g cap 1), (1, sRow A'), (2, zBox X g), (3, none), (4, some (.ghost vs env))], 5⟩) (fun st => slotZ st 8) ⟨_, (weak_ren1 [5, 6, 7, 100, 8] ⟨(by decide), (by (first | ((simp only [envInR, tabInR, envLt, tabLt, AObj.lt, AV.lt, AV.ltL, AV.ren, AV.renL, AObj.ren, List.getD_cons_zero, List.getD_cons_succ, List.length_cons, List.length_nil, ruW, ASt.get, aget, ↓reduceIte, reduceCtorEq, Nat.reduceLT, Nat.reduceEqDiff, Nat.reduceAdd, eq_self, hT2, he5]) <;> (repeat' apply And.intro) <;> first | (rw [wrapK (by omega)]; done) | (simp; done) | omega) | fail))⟩), i, A1, by omega, Nat.le_refl _, DnP.start g i A1, rfl⟩ ?_
  rintro _ ⟨k, A', hwk, hki, hD, rfl⟩
  by_cases hlt2 : w < k
  · obtain ⟨j, rfl⟩ : ∃ j, k = j + 1 := ⟨k - 1, by omega⟩
    have hst := hD.step (by omega) (by omega)
    obtain ⟨b1, b2⟩ := smp_numD hs1 hA2 hD (i := j + 1) (by omega) (by omega) (by omega)
    obtain ⟨g1, g2⟩ := hs.gap j
    have hl' : A'.length = A1.length := hD.1
    have i1 : j + 1 < A'.length := by omega
    have i2 : j < g.length := by omega
    have i3 : j < A'.length := by omega
    rw [gD_at i1, gD_at i2] at hst
    rw [gD_at i1] at b1 b2
    rw [gD_at i2] at g1 g2
    generalize hx : A'[j + 1] = x at *
    generalize hy : g[j] = y at *
    have f0 : ((j + 1 : Nat) : Int) - 1 = (j : Int) := by omega
    have w2 : IntKind.i64.wrap ((j : Int) + 1) = ((j + 1 : Nat) : Int) := wrapK (by omega)
    have w3 : IntKind.i64.wrap (0 - y) = -y := by rw [wrap_in (by omega) (by omega)]; omega
    have w4 : IntKind.i64.wrap (-y - 1) = -y - 1 := wrap_in (by omega) (by omega)
    have w5 : IntKind.i64.wrap ((j : Int) - 1) = (j : Int) - 1 := wrap_in (by omega) (by omega)
    have d1 : decide (w ≤ j) = true := decide_eq_true (by omega)
    have hset : (A'.map fun n : Int => [eI n]).set j [eI (x + (-y - 1))] = (A'.set j (x + (-y - 1))).map fun n => [eI n] := List.map_set.symm
    (repeat' (first | simp (maxSteps := 5000000) (implicitDefEqProofs := false) only [ruA, ruB, aEv, aBin, bin2, ASt.get, aget, ASt.put, ↓reduceIte, Nat.reduceLT, Nat.reduceEqDiff, eq_self, f0, d1, Int.ofNat_le] | (with_reducible refine aIf_split (fun _ => ?_) (fun _ => ?_)) | (with_reducible refine aSel_split (fun _ => ?_) (fun _ => ?_)) | (with_reducible refine aGd_split (fun _ => ?_) (fun _ => ?_))))
    refine aDraw_held [1] [0, 1, 2, 3, 4, 5, 6, 7, 8, 9, 10, 11, 12, 14, 15, 16, 17, 18, 19, 20, 21, 22, 23] (.exec 13 (.exec 24 (.take 25 (.exec 26 .done)))) (by kernel_rfl) (by simp [ATab.get_cons]) ?_
    (repeat' (first | simp (maxSteps := 5000000) (implicitDefEqProofs := false) only [ruA, ruB, aEv, aTake, aLoad, aField, aIndex, aBin, bin2, aUn, un1, ASt.get, aget, ASt.put, aCells, oneC, oneCL, treeC, treeL, Value.cells, Value.oneCell', ↓reduceIte, reduceCtorEq, Nat.reduceLT, Nat.reduceEqDiff, Nat.reduceAdd, Nat.reduceLeDiff, eq_self, aExecS, aStoreB, aTakes, aTakeE, aFrom, aMay, aNil, tyF_102_0, tyF_36_1, tyA_34, tyS_34, tyE_34, tyA_3, tyS_3, tyF_102_2, tyA_23, tyS_23, tyE_23, tyA_2, tyS_2, row_at, i1, i2, i3, hx, hy, w2, w3, w4, w5, hset, Int.natCast_nonneg, Int.ofNat_lt] | (with_reducible refine aIf_split (fun _ => ?_) (fun _ => ?_)) | (with_reducible refine aSel_split (fun _ => ?_) (fun _ => ?_)) | (with_reducible refine aGd_split (fun _ => ?_) (fun _ => ?_)) | (with_reducible refine aDraw_quiet (by kernel_rfl) ?_) | (((with_reducible apply callSame); refine add_S x (-y - 1) ⟨by omega, by omega⟩ ⟨by omega, by omega⟩ ⟨by omega, by omega⟩ rfl ?_))))
    all_goals exact roundI (weak_cut1 (by (first | ((simp only [envIn, tabIn, envLt, tabLt, AObj.lt, AV.lt, AV.ltL, ruW, ASt.get, aget, ↓reduceIte, reduceCtorEq, Nat.reduceLT, Nat.reduceEqDiff, eq_self, hT2]) <;> (repeat' apply And.intro) <;> first | (rw [wrapK (by omega)]; done) | (simp; done) | omega) | fail))) ⟨j, A'.set j (x + (-y - 1)), by omega, by omega, hst, rfl⟩ (by first | (show ((j : Int) - 1 + 1).toNat < (((j + 1 : Nat) : Int) - 1 + 1).toNat; omega) | (show ((j : Int) - 1 + 1).toNat < ((j : Int) + 1).toNat; omega))
  · obtain rfl : k = w := by omega
    have d1 : decide ((k : Int) ≤ (k : Int) - 1) = false := decide_eq_false (by omega)
    (repeat' (first | simp (maxSteps := 5000000) (implicitDefEqProofs := false) only [ruA, ruB, aEv, aBin, bin2, ASt.get, aget, ASt.put, ↓reduceIte, Nat.reduceLT, Nat.reduceEqDiff, eq_self, d1] | (with_reducible refine aIf_split (fun _ => ?_) (fun _ => ?_)) | (with_reducible refine aSel_split (fun _ => ?_) (fun _ => ?_)) | (with_reducible refine aGd_split (fun _ => ?_) (fun _ => ?_))))
    exact ⟨rfl, hk k A1 A' hW (by rw [hmx] at hU; rw [hmx]; exact hU) hD⟩
end
section
open Go.RowKit
theorem or_63 (a b : Nat) (ha : a < 2 ^ 63) (hb : b < 2 ^ 63) : orI (a : Int) (b : Int) = ((a ||| b : Nat) : Int) := by
  show IntKind.i64.wrap ((BitVec.ofInt 64 (a : Int) ||| BitVec.ofInt 64 (b : Int)).toNat : Int) = _
  rw [BitVec.toNat_or, ofInt_nat64 a (by omega), ofInt_nat64 b (by omega)]
  exact wrap_nat _ (Nat.or_lt_two_pow ha hb)
theorem and_63 (a b : Nat) (ha : a < 2 ^ 63) (hb : b < 2 ^ 63) : andI (a : Int) (b : Int) = ((a &&& b : Nat) : Int) := by
  show IntKind.i64.wrap ((BitVec.ofInt 64 (a : Int) &&& BitVec.ofInt 64 (b : Int)).toNat : Int) = _
  rw [BitVec.toNat_and, ofInt_nat64 a (by omega), ofInt_nat64 b (by omega)]
  exact wrap_nat _ (Nat.lt_of_le_of_lt Nat.and_le_left (by omega))
def aN (x : Cls) : Nat := x.attrs.toNat
theorem atts_nat : ∀ l : List Cls, (∀ x ∈ l, 0 ≤ x.attrs ∧ x.attrs < 9223372036854775808) → ∃ A : Nat, atts l = (A : Int) ∧ A < 2 ^ 63 ∧ ∀ q, A.testBit q = true ↔ ∃ x ∈ l, (aN x).testBit q = true := fun L => by
  induction hk : L.length using Nat.strongRecOn generalizing L with
  | _ k ih =>
    intro hL
    rcases List.eq_nil_or_concat L with rfl | ⟨l, m, rfl⟩
    · exact ⟨0, rfl, by decide, fun q => by simp⟩
    · rw [List.concat_eq_append] at *
      obtain ⟨A, h1, h2, h3⟩ := ih l.length (by simp at hk; omega) l rfl fun x hx => hL x (List.mem_append_left _ hx)
      have hm := hL m (by simp)
      have e1 : m.attrs = ((aN m : Nat) : Int) := by unfold aN; omega
      have hlt : aN m < 2 ^ 63 := by unfold aN; omega
      refine ⟨A ||| aN m, ?_, Nat.or_lt_two_pow h2 hlt, fun q => ?_⟩
      · rw [atts_snoc, h1, e1, or_63 _ _ h2 hlt]
      · rw [Nat.testBit_or, Bool.or_eq_true, h3]
        simp only [List.mem_append, List.mem_singleton]
        constructor
        · rintro (⟨x, hx, hb⟩ | hb)
          · exact ⟨x, .inl hx, hb⟩
          · exact ⟨m, .inr rfl, hb⟩
        · rintro ⟨x, hx | rfl, hb⟩
          · exact .inl ⟨x, hx, hb⟩
          · exact .inr hb
structure ZB (l : List Cls) (n : Nat) : Prop where
  nn : ∀ x ∈ l, 0 ≤ x.attrs ∧ x.attrs < 2147483648
  lt : ∀ x ∈ l, ∀ q, (aN x).testBit q = true → q < n
  dis : ∀ i j (hi : i < l.length) (hj : j < l.length) (q : Nat), (aN l[i]).testBit q = true → (aN l[j]).testBit q = true → i = j
  all : ∀ q, q < n → ∃ i, ∃ h : i < l.length, (aN l[i]).testBit q = true
theorem zb_of {l : List Cls} {n : Nat} {k : Int} (hn : n ≤ 31) (h : FormedP l (n : Int) k) (hl : ∀ x ∈ l, x.attrs < 9223372036854775808) : ZB l n := by
  obtain ⟨h1, h2, _⟩ := h
  have hnn : ∀ x ∈ l, 0 ≤ x.attrs ∧ x.attrs < 9223372036854775808 := fun x hx => by
    obtain ⟨i, hi, rfl⟩ := List.getElem_of_mem hx
    exact ⟨(h1 i hi).1, hl _ (List.getElem_mem hi)⟩
  obtain ⟨A, hA, hAlt, hAb⟩ := atts_nat l hnn
  have hA2 : A = 2 ^ n - 1 := by
    rw [hA] at h2
    unfold firstI at h2
    have e : (max 0 (min (n : Int) 31)).toNat = n := by omega
    rw [e] at h2
    have h3 : 1 ≤ 2 ^ n := Nat.one_le_two_pow
    have h4 : ((2 ^ n - 1 : Nat) : Int) = (2 : Int) ^ n - 1 := by rw [Int.natCast_sub h3]; simp
    omega
  have hlt : ∀ x ∈ l, ∀ q, (aN x).testBit q = true → q < n := fun x hx q hq => by
    have := (hAb q).2 ⟨x, hx, hq⟩
    rw [hA2, Nat.testBit_two_pow_sub_one] at this
    simpa using this
  have hlow : ∀ i j (hi : i < l.length) (hj : j < l.length) (q : Nat), i < j → (aN l[i]).testBit q = true → (aN l[j]).testBit q = true → False := fun i j hi hj q hij h3 h4 => by
    have h5 := (h1 j hj).2.1
    obtain ⟨B, hB, hBlt, hBb⟩ := atts_nat (l.take j) fun x hx => hnn x (List.mem_of_mem_take hx)
    have e1 : l[j].attrs = ((aN l[j] : Nat) : Int) := by have := hnn _ (List.getElem_mem hj); unfold aN; omega
    have hlt2 : aN l[j] < 2 ^ 63 := by have := hnn _ (List.getElem_mem hj); unfold aN; omega
    rw [hB, e1, and_63 _ _ hlt2 hBlt] at h5
    have h6 : aN l[j] &&& B = 0 := by omega
    have h7 : (aN l[j] &&& B).testBit q = true := by
      rw [Nat.testBit_and, h4, (hBb q).2 ⟨l[i], List.mem_take_iff_getElem.2 ⟨i, by omega, rfl⟩, h3⟩]
      rfl
    rw [h6] at h7
    simp at h7
  refine ⟨fun x hx => ⟨(hnn x hx).1, ?_⟩, hlt, fun i j hi hj q h3 h4 => ?_, fun q hq => ?_⟩
  · have : aN x < 2 ^ 31 := Nat.lt_pow_two_of_testBit _ fun q hq => by
      cases hb : (aN x).testBit q with
      | false => rfl
      | true => have := hlt x hx q hb; omega
    have h0 := (hnn x hx).1
    unfold aN at this
    omega
  · rcases Nat.lt_trichotomy i j with h5 | h5 | h5
    · exact (hlow i j hi hj q h5 h3 h4).elim
    · exact h5
    · exact (hlow j i hj hi q h5 h4 h3).elim
  · have : A.testBit q = true := by
      rw [hA2, Nat.testBit_two_pow_sub_one]
      simpa using hq
    obtain ⟨x, hx, hb⟩ := (hAb q).1 this
    obtain ⟨i, hi, rfl⟩ := List.getElem_of_mem hx
    exact ⟨i, hi, hb⟩
theorem fix_next {l : List Cls} (h : ∀ i (h : i < l.length), ClsOk (l.take i) l[i]) : ∀ k, k ≤ l.length → (fixI l k).length = nextN (l.take k)
  | 0, _ => by simp [fixI, nextN]
  | k + 1, hk => by
    have ih := fix_next h k (by omega)
    have hc := (h k (by omega)).2.2.2
    rw [fixI_snoc l (by omega), List.take_succ_eq_append_getElem (by omega), nextN_snoc]
    by_cases h1 : l[k].const = -1
    · rw [if_neg (by omega), if_pos h1]
      omega
    · rw [if_pos (by omega), if_neg h1, List.length_append, List.length_singleton]
      omega
theorem fixI_pre (l : List Cls) {i : Nat} : ∀ d, i + d ≤ l.length → ∃ t, fixI l (i + d) = fixI l i ++ t
  | 0, _ => ⟨[], by simp⟩
  | d + 1, hd => by
    obtain ⟨t, ht⟩ := fixI_pre l (i := i) d (by omega)
    rw [show i + (d + 1) = i + d + 1 by omega, fixI_snoc l (by omega)]
    split
    · exact ⟨t ++ [i + d], by rw [ht, List.append_assoc]⟩
    · exact ⟨t, ht⟩
theorem fix_at {z : Zn} (h : ∀ i (h : i < z.cls.length), ClsOk (z.cls.take i) z.cls[i]) {i : Nat} (hi : i < z.cls.length) (hc : z.cls[i].const ≠ -1) : ∃ j : Nat, z.cls[i].const = (j : Int) ∧ ∃ hj : j < (fixL z).length, (fixL z)[j] = i := by
  have h1 := ((h i hi).2.2.2).resolve_left hc
  have h2 := fix_next h i (by omega)
  obtain ⟨t, ht⟩ := fixI_pre z.cls (i := i + 1) (z.cls.length - (i + 1)) (by omega)
  rw [show i + 1 + (z.cls.length - (i + 1)) = z.cls.length by omega, fixI_snoc z.cls hi, if_pos (by omega)] at ht
  have e : fixL z = fixI z.cls i ++ [i] ++ t := ht
  refine ⟨(fixI z.cls i).length, by omega, by rw [e]; simp, ?_⟩
  simp [e]
theorem fix_const {z : Zn} (h : ∀ i (h : i < z.cls.length), ClsOk (z.cls.take i) z.cls[i]) {j : Nat} (hj : j < (fixL z).length) : ∃ hi : (fixL z)[j] < z.cls.length, z.cls[(fixL z)[j]].const = (j : Int) := by
  have hi : (fixL z)[j] < z.cls.length := fixI_mem _ _ (List.getElem_mem hj)
  refine ⟨hi, ?_⟩
  have hm : (fixL z)[j] ∈ fixI z.cls z.cls.length := List.getElem_mem hj
  have hc : z.cls[(fixL z)[j]].const ≠ -1 := by
    unfold fixI at hm
    simp only [List.mem_filter, decide_eq_true_eq] at hm
    have := hm.2
    rw [List.getElem?_eq_getElem hi] at this
    simp at this
    omega
  obtain ⟨k, h1, h2, h3⟩ := fix_at h hi hc
  have hup : (fixL z).Pairwise (· < ·) := fixI_up _ _
  have : k = j := by
    have hp := List.pairwise_iff_getElem.1 hup
    rcases Nat.lt_trichotomy k j with h4 | h4 | h4
    · have := hp k j h2 hj h4
      omega
    · exact h4
    · have := hp j k hj h2 h4
      omega
  rw [h1, this]
def GapP (z : Zn) (cap : Int) (A : List Int) (i : Nat) : Prop := A.getD (i + 1) 0 - A.getD i 0 - 1 = z.gaps.getD i 0 ∨ (z.gaps.getD i 0 = cap ∧ cap ≤ A.getD (i + 1) 0 - A.getD i 0 - 1)
theorem zone_sample {z : Zn} {n : Nat} {c : List Int} {r : Int} (hn : n ≤ 31) (hC : CheckP z (n : Int) c r) (hB : ZB z.cls n) {A : List Int} (hAl : A.length = z.cls.length)
    (h1 : ∀ j, j < (fixL z).length → A.getD ((fixL z).getD j 0) 0 = (sortR c).getD j 0) (h2 : ∀ i, i + 1 < z.cls.length → GapP z (capV r) A i)
    {v : List Int} (hv : v.length = n) (h3 : ∀ i (h : i < z.cls.length) (q : Nat), (aN z.cls[i]).testBit q = true → v.getD q 0 = A.getD i 0) : zoneM v c r = z := by
  obtain ⟨⟨_, hF, hG⟩, _⟩ := hC
  have hok := hF.1
  have hgl := hG.1
  have hgap : ∀ i, i + 1 < z.cls.length → 0 ≤ z.gaps.getD i 0 ∧ z.gaps.getD i 0 ≤ capV r := fun i hi => by
    have hi' : i < z.gaps.length := by omega
    rw [gD_at hi']
    exact hG.2 i hi'
  have hstep : ∀ i, i + 1 < A.length → A.getD i 0 < A.getD (i + 1) 0 := fun i hi => by
    have := h2 i (by omega)
    have := hgap i (by omega)
    unfold GapP at *
    omega
  have hmono : ∀ d i, i + d + 1 < A.length → A.getD i 0 < A.getD (i + d + 1) 0 := by
    intro d
    induction d with
    | zero => exact fun i hi => hstep i hi
    | succ d ih =>
      intro i hi
      have := ih i (by omega)
      have := hstep (i + d + 1) (by omega)
      rw [show i + (d + 1) + 1 = i + d + 1 + 1 by omega]
      omega
  have hUp : Up A := List.pairwise_iff_getElem.2 fun i j hi hj hij => by
    have := hmono (j - i - 1) i (by omega)
    rw [show i + (j - i - 1) + 1 = j by omega, gD_at hi, gD_at hj] at this
    exact this
  have hinj : ∀ i j, i < A.length → j < A.length → A.getD i 0 = A.getD j 0 → i = j := fun i j hi hj e => by
    rcases Nat.lt_trichotomy i j with h | h | h
    · have := hmono (j - i - 1) i (by omega)
      rw [show i + (j - i - 1) + 1 = j by omega] at this
      omega
    · exact h
    · have := hmono (i - j - 1) j (by omega)
      rw [show j + (i - j - 1) + 1 = i by omega] at this
      omega
  have hsc := (sortR_up c).1
  have hscm := (sortR_up c).2
  have hFl : (fixL z).length = (sortR c).length := by
    have e1 := fix_next hok z.cls.length (Nat.le_refl _)
    rw [List.take_length] at e1
    have e2 := hF.2.2
    unfold fixL
    omega
  have hfix : ∀ j (h : j < (fixL z).length), A.getD ((fixL z)[j]) 0 = (sortR c)[j]'(by omega) := fun j h => by
    have := h1 j h
    rw [List.getD_eq_getElem?_getD (l := fixL z), List.getElem?_eq_getElem h, gD_at (by omega : j < (sortR c).length)] at this
    exact this
  have hnum : numsL v c = A := by
    refine up_ext _ _ (sortR_up (v ++ c)).1 hUp fun x => ?_
    show x ∈ sortR (v ++ c) ↔ _
    rw [(sortR_up (v ++ c)).2, List.mem_append]
    constructor
    · rintro (hx | hx)
      · obtain ⟨q, hq, rfl⟩ := List.getElem_of_mem hx
        obtain ⟨i, hi, hb⟩ := hB.all q (by omega)
        have := h3 i hi q hb
        rw [gD_at hq, gD_at (by omega)] at this
        rw [this]
        exact List.getElem_mem _
      · obtain ⟨j, hj, rfl⟩ := List.getElem_of_mem ((hscm x).2 hx)
        have := hfix j (by omega)
        rw [← this]
        have hi := (fix_const hok (j := j) (by omega)).1
        rw [gD_at (by omega)]
        exact List.getElem_mem _
    · intro hx
      obtain ⟨i, hi, rfl⟩ := List.getElem_of_mem hx
      have hi' : i < z.cls.length := by omega
      have hne := (hok i hi').2.2.1
      by_cases ha : z.cls[i].attrs = 0
      · have hc : z.cls[i].const ≠ -1 := fun h => hne ⟨ha, h⟩
        obtain ⟨j, _, hj, he⟩ := fix_at hok hi' hc
        have := hfix j hj
        rw [he, gD_at hi] at this
        rw [this]
        exact .inr ((hscm _).1 (List.getElem_mem _))
      · have h0 : aN z.cls[i] ≠ 0 := by
          have := (hB.nn _ (List.getElem_mem hi')).1
          unfold aN
          omega
        obtain ⟨q, hq⟩ : ∃ q, (aN z.cls[i]).testBit q = true := Classical.byContradiction fun hno => h0 (Nat.eq_of_testBit_eq fun q => by
          rw [Nat.zero_testBit]
          cases hb : (aN z.cls[i]).testBit q with
          | false => rfl
          | true => exact (hno ⟨q, hb⟩).elim)
        have hqn := hB.lt _ (List.getElem_mem hi') q hq
        have := h3 i hi' q hq
        rw [gD_at (by omega : q < v.length), gD_at hi] at this
        rw [← this]
        exact .inl (List.getElem_mem _)
  refine zn_ext ?_ ?_
  · show (numsL v c).map (clsOf v c) = _
    rw [hnum]
    refine List.ext_getElem (by simpa using hAl) fun i h4 h5 => ?_
    have hi : i < A.length := by omega
    rw [List.getElem_map]
    have hattr : attrsN v A[i] v.length = z.cls[i].attrs := by
      obtain ⟨a, ha, halt⟩ := attrs_nat v A[i] v.length (by omega)
      have hb := attrs_bit v A[i] (by omega) ha halt
      have e : a = aN z.cls[i] := Nat.eq_of_testBit_eq fun q => by
        rw [Bool.eq_iff_iff, hb]
        constructor
        · rintro ⟨hq, he⟩
          obtain ⟨j, hj, hjb⟩ := hB.all q (by omega)
          have h6 := h3 j hj q hjb
          rw [gD_at hq, he, ← gD_at hi] at h6
          obtain rfl := hinj i j hi (by omega) h6
          exact hjb
        · intro hq
          have hqn := hB.lt _ (List.getElem_mem h5) q hq
          have h6 := h3 i h5 q hq
          rw [gD_at (by omega : q < v.length), gD_at hi] at h6
          exact ⟨by omega, h6⟩
      rw [ha, e]
      have := (hB.nn _ (List.getElem_mem h5)).1
      unfold aN
      omega
    have hcon : constN (sortR c) A[i] (sortR c).length = z.cls[i].const := by
      rcases const_in hsc A[i] with ⟨h6, h7⟩ | ⟨k, hk, h6, h7⟩
      · rw [h7]
        refine Classical.byContradiction fun hne => ?_
        obtain ⟨j, _, hj, he⟩ := fix_at hok h5 (fun h => hne h.symm)
        have := hfix j hj
        rw [he, gD_at hi] at this
        exact h6 (this ▸ List.getElem_mem _)
      · rw [h7]
        obtain ⟨h8, h9⟩ := fix_const hok (j := k) (by omega)
        have := hfix k (by omega)
        rw [h6, ← gD_at hi] at this
        have h10 := hinj _ _ (by omega) hi this
        simp only [h10] at h9
        exact h9.symm
    show (⟨attrsN v A[i] v.length, constN (sortR c) A[i] (sortR c).length⟩ : Cls) = _
    rw [hattr, hcon]
  · show gapsN (numsL v c) r (numsL v c).length = _
    rw [hnum]
    refine List.ext_getElem? fun i => ?_
    by_cases hi : i + 1 < A.length
    · rw [gapsN_get A r hi]
      have hi' : i < z.gaps.length := by omega
      rw [List.getElem?_eq_getElem hi', ← gD_at hi']
      have h6 := h2 i (by omega)
      have h7 := hgap i (by omega)
      unfold GapP at h6
      unfold gapV
      congr 1
      omega
    · rw [List.getElem?_eq_none (by rw [gapsN_len]; omega), List.getElem?_eq_none (by omega)]
end
section
open Go.RowKit
def sitsN (l : List Cls) (a : Int) : Nat := l.countP fun x => hasB x.attrs a
theorem sitsN_snoc (l : List Cls) (x : Cls) (a : Int) : sitsN (l ++ [x]) a = sitsN l a + (if hasB x.attrs a = true then 1 else 0) := by
  unfold sitsN
  rw [List.countP_append]
  cases h : hasB x.attrs a <;> simp [h]
theorem sitsN_le (l : List Cls) (a : Int) : sitsN l a ≤ l.length := List.countP_le_length
set_option maxRecDepth 100000 in
set_option maxHeartbeats 8000000 in
theorem sits_A (z : Zn) (a : Int) (h1 : z.cls.length ≤ 1000000) (hat : ∀ x ∈ z.cls, ok64 x.attrs) : ADet Tryz.prog 82 [.agg (eZn z), eI a] (val (.int .i64 (sitsN z.cls a : Int))) := by
  refine adet_of_code mixedT Tryz.func82 rfl (by decide) Tryz.ntmps82 Tryz.results82 rfl (val_ok _) ?_
  (repeat' (first | simp (maxSteps := 5000000) (implicitDefEqProofs := false) only [ruA, ruB, aEv, ASt.get, aget, ASt.put, aBox, aCells, oneC, oneCL, envOf, ↓reduceIte, Nat.reduceLT, eq_self] | (with_reducible refine aIf_split (fun _ => ?_) (fun _ => ?_)) | (with_reducible refine aSel_split (fun _ => ?_) (fun _ => ?_)) | (with_reducible refine aGd_split (fun _ => ?_) (fun _ => ?_))))
  refine aLoop_of (fun st => ∃ (k : Nat) (s : Int), k ≤ z.cls.length ∧ s = (sitsN (z.cls.take k) a : Int) ∧ st = ⟨25, [(1, eI a), (2, .op 0 0 0), (5, eI s), (6, eI (k : Int))], [(0, some (.box 36 (eZn z)))], 1⟩) (fun st => z.cls.length - slotN st 6) ⟨_, (weak_cut1 (by (first | ((simp only [envIn, tabIn, envLt, tabLt, AObj.lt, AV.lt, AV.ltL, ruW, ASt.get, aget, ↓reduceIte, Nat.reduceLT, Nat.reduceEqDiff, eq_self]) <;> (repeat' apply And.intro) <;> first | (rw [wrapK (by omega)]; done) | (simp; done) | omega) | fail))), 0, 0, Nat.zero_le _, rfl, rfl⟩ ?_
  rintro _ ⟨k, s, hk, hs, rfl⟩
  by_cases hlt : k < z.cls.length
  · have htk : sitsN (z.cls.take (k + 1)) a = sitsN (z.cls.take k) a + (if hasB z.cls[k].attrs a = true then 1 else 0) := by rw [List.take_succ_eq_append_getElem hlt, sitsN_snoc]
    have hle := sitsN_le (z.cls.take k) a
    rw [List.length_take] at hle
    have hH := hasR_A z.cls[k].attrs a (hat _ (List.getElem_mem hlt))
    generalize hc : z.cls[k] = c at *
    cases hb : hasB c.attrs a with
    | true =>
      rw [hb] at hH
      rw [hb, if_pos rfl] at htk
      have ew : IntKind.i64.wrap (s + 1) = s + 1 := wrap_in (by omega) (by omega)
      (repeat' (first | simp (maxSteps := 5000000) (implicitDefEqProofs := false) only [ruA, ruB, aEv, aTake, aLoad, aField, aIndex, aLen, aBin, bin2, ASt.get, aget, ASt.put, ↓reduceIte, reduceCtorEq, Nat.reduceLT, Nat.reduceEqDiff, Nat.reduceAdd, Nat.reduceLeDiff, eq_self, ne_eq, tyF_36_0, tyA_33, tyS_33, tyE_33, tyF_63_0, tyA_3, tyS_3, row_at, hlt, hc, ew] | (with_reducible refine aIf_split (fun _ => ?_) (fun _ => ?_)) | (with_reducible refine aSel_split (fun _ => ?_) (fun _ => ?_)) | (with_reducible refine aGd_split (fun _ => ?_) (fun _ => ?_)) | (with_reducible refine aDraw_quiet (by kernel_rfl) ?_) | ((with_reducible apply callV); exact (hH)) | ((with_reducible apply callD); exact (hH))))
      all_goals exact roundI (weak_cut1 (by (first | ((simp only [envIn, tabIn, envLt, tabLt, AObj.lt, AV.lt, AV.ltL, ruW, ASt.get, aget, ↓reduceIte, Nat.reduceLT, Nat.reduceEqDiff, eq_self]) <;> (repeat' apply And.intro) <;> first | (rw [wrapK (by omega)]; done) | (simp; done) | omega) | fail))) ⟨k + 1, s + 1, by omega, by omega, rfl⟩ (by simp only [slotN, ruW, ASt.get, aget, ↓reduceIte, Nat.reduceLT, Nat.reduceEqDiff, eq_self]; omega)
    | false =>
      rw [hb] at hH
      rw [hb, if_neg (by simp)] at htk
      (repeat' (first | simp (maxSteps := 5000000) (implicitDefEqProofs := false) only [ruA, ruB, aEv, aTake, aLoad, aField, aIndex, aLen, aBin, bin2, ASt.get, aget, ASt.put, ↓reduceIte, reduceCtorEq, Nat.reduceLT, Nat.reduceEqDiff, Nat.reduceAdd, Nat.reduceLeDiff, eq_self, ne_eq, tyF_36_0, tyA_33, tyS_33, tyE_33, tyF_63_0, tyA_3, tyS_3, row_at, hlt, hc] | (with_reducible refine aIf_split (fun _ => ?_) (fun _ => ?_)) | (with_reducible refine aSel_split (fun _ => ?_) (fun _ => ?_)) | (with_reducible refine aGd_split (fun _ => ?_) (fun _ => ?_)) | (with_reducible refine aDraw_quiet (by kernel_rfl) ?_) | ((with_reducible apply callV); exact (hH)) | ((with_reducible apply callD); exact (hH))))
      all_goals exact roundI (weak_cut1 (by (first | ((simp only [envIn, tabIn, envLt, tabLt, AObj.lt, AV.lt, AV.ltL, ruW, ASt.get, aget, ↓reduceIte, Nat.reduceLT, Nat.reduceEqDiff, eq_self]) <;> (repeat' apply And.intro) <;> first | (rw [wrapK (by omega)]; done) | (simp; done) | omega) | fail))) ⟨k + 1, s, by omega, by omega, rfl⟩ (by simp only [slotN, ruW, ASt.get, aget, ↓reduceIte, Nat.reduceLT, Nat.reduceEqDiff, eq_self]; omega)
  · obtain rfl : k = z.cls.length := by omega
    rw [List.take_length] at hs
    rw [← hs]
    (repeat' (first | simp (maxSteps := 5000000) (implicitDefEqProofs := false) only [ruA, ruB, aEv, aTake, aLoad, aField, aLen, aBin, bin2, ASt.get, aget, ASt.put, aResL, aOne, ↓reduceIte, reduceCtorEq, Nat.reduceLT, Nat.reduceEqDiff, Nat.reduceAdd, Nat.reduceLeDiff, eq_self, ne_eq, tyF_36_0, tyA_33, tyS_33, tyE_33, hlt] | (with_reducible refine aIf_split (fun _ => ?_) (fun _ => ?_)) | (with_reducible refine aSel_split (fun _ => ?_) (fun _ => ?_)) | (with_reducible refine aGd_split (fun _ => ?_) (fun _ => ?_)) | (with_reducible refine aDraw_quiet (by kernel_rfl) ?_)))
def okA (l : List Cls) (n : Int) (k : Nat) : Bool := (List.range k).all fun a => decide ((sitsN l (a : Int) : Int) = if (a : Int) < n then 1 else 0)
theorem okA_snoc (l : List Cls) (n : Int) (k : Nat) : okA l n (k + 1) = (okA l n k && decide ((sitsN l (k : Int) : Int) = if (k : Int) < n then 1 else 0)) := by
  unfold okA
  rw [List.range_succ, List.all_append]
  simp
def clsOkB (l : List Cls) (x : Cls) : Bool := decide (0 ≤ x.attrs) && decide (x.attrs < 2147483648) && (decide (0 < x.attrs) || decide (0 ≤ x.const)) && (x.const == -1 || x.const == (nextN l : Int))
def okB (l : List Cls) (n : Int) (k : Nat) : Bool := okA l n 31 && (List.range k).all fun i => clsOkB (l.take i) (l.getD i ⟨0, 0⟩)
theorem okB_snoc (l : List Cls) (n : Int) {k : Nat} (hk : k < l.length) : okB l n (k + 1) = (okB l n k && clsOkB (l.take k) l[k]) := by
  unfold okB
  rw [List.range_succ, List.all_append, Bool.and_assoc]
  simp [List.getD_eq_getElem?_getD, List.getElem?_eq_getElem hk]
set_option maxRecDepth 100000 in
set_option maxHeartbeats 16000000 in
theorem classes_A (z : Zn) (n m : Int) (h1 : z.cls.length ≤ 1000000) (hat : ∀ x ∈ z.cls, ok64 x.attrs) : ADet Tryz.prog 57 [.agg (eZn z), eI n, eI m] (val (.bool (okB z.cls n z.cls.length && decide ((nextN z.cls : Int) = m)))) := by
  refine adet_of_code mixedT Tryz.func57 rfl (by decide) Tryz.ntmps57 Tryz.results57 rfl (val_ok _) ?_
  (repeat' (first | simp (maxSteps := 5000000) (implicitDefEqProofs := false) only [ruA, ruB, aEv, ASt.get, aget, ASt.put, aBox, aCells, oneC, oneCL, envOf, ↓reduceIte, Nat.reduceLT, Nat.reduceAdd, eq_self] | (with_reducible refine aIf_split (fun _ => ?_) (fun _ => ?_)) | (with_reducible refine aSel_split (fun _ => ?_) (fun _ => ?_)) | (with_reducible refine aGd_split (fun _ => ?_) (fun _ => ?_))))
  refine aLoop_of (fun st => ∃ (k : Nat) (ok : Bool), k ≤ 31 ∧ ok = okA z.cls n k ∧ st = ⟨88, [(1, eI n), (2, eI m), (3, .op 0 0 0), (7, .c (.bool ok)), (8, eI (k : Int))], [(0, some (.box 36 (eZn z)))], 1⟩) (fun st => 31 - slotN st 8) ⟨_, (weak_cut1 (by (first | ((simp only [envIn, tabIn, envLt, tabLt, AObj.lt, AV.lt, AV.ltL, ruW, ASt.get, aget, ↓reduceIte, Nat.reduceLT, Nat.reduceEqDiff, eq_self]) <;> (repeat' apply And.intro) <;> first | (rw [wrapK (by omega)]; done) | (simp; done) | omega) | fail))), 0, true, Nat.zero_le _, rfl, rfl⟩ ?_
  rintro _ ⟨k, ok, hk, hok, rfl⟩
  by_cases hlt : k < 31
  · have d0 : decide ((k : Int) < 31) = true := decide_eq_true (by omega)
    have hs := okA_snoc z.cls n k
    rw [← hok] at hs
    have hS := sits_A z (k : Int) h1 hat
    generalize (sitsN z.cls (k : Int) : Int) = s at *
    by_cases g : (k : Int) < n
    · have d1 : decide ((k : Int) < n) = true := decide_eq_true g
      rw [if_pos g] at hs
      cases ok with
      | false =>
        (repeat' (first | simp (maxSteps := 5000000) (implicitDefEqProofs := false) only [ruA, ruB, aEv, aBin, bin2, ASt.get, aget, ASt.put, ↓reduceIte, Nat.reduceLT, Nat.reduceEqDiff, eq_self, d0, d1] | (with_reducible refine aIf_split (fun _ => ?_) (fun _ => ?_)) | (with_reducible refine aSel_split (fun _ => ?_) (fun _ => ?_)) | (with_reducible refine aGd_split (fun _ => ?_) (fun _ => ?_)) | (with_reducible refine aDraw_quiet (by kernel_rfl) ?_)))
        all_goals exact roundI (weak_cut1 (by (first | ((simp only [envIn, tabIn, envLt, tabLt, AObj.lt, AV.lt, AV.ltL, ruW, ASt.get, aget, ↓reduceIte, Nat.reduceLT, Nat.reduceEqDiff, eq_self]) <;> (repeat' apply And.intro) <;> first | (rw [wrapK (by omega)]; done) | (simp; done) | omega) | fail))) ⟨k + 1, false, by omega, by rw [hs]; rfl, rfl⟩ (by simp only [slotN, ruW, ASt.get, aget, ↓reduceIte, Nat.reduceLT, Nat.reduceEqDiff, eq_self]; omega)
      | true =>
        have e1 : (s == 1) = decide (s = 1) := by by_cases h : s = 1 <;> simp [h]
        (repeat' (first | simp (maxSteps := 5000000) (implicitDefEqProofs := false) only [ruA, ruB, aEv, aTake, aLoad, aBin, bin2, ASt.get, aget, ASt.put, ↓reduceIte, Nat.reduceLT, Nat.reduceEqDiff, Nat.reduceAdd, eq_self, tyA_36, tyS_36, d0, d1] | (with_reducible refine aIf_split (fun _ => ?_) (fun _ => ?_)) | (with_reducible refine aSel_split (fun _ => ?_) (fun _ => ?_)) | (with_reducible refine aGd_split (fun _ => ?_) (fun _ => ?_)) | (with_reducible refine aDraw_quiet (by kernel_rfl) ?_) | ((with_reducible apply callV); exact (hS)) | ((with_reducible apply callD); exact (hS))))
        all_goals exact roundI (weak_cut1 (by (first | ((simp only [envIn, tabIn, envLt, tabLt, AObj.lt, AV.lt, AV.ltL, ruW, ASt.get, aget, ↓reduceIte, Nat.reduceLT, Nat.reduceEqDiff, eq_self]) <;> (repeat' apply And.intro) <;> first | (rw [wrapK (by omega)]; done) | (simp; done) | omega) | fail))) ⟨k + 1, (s == 1), by omega, by rw [hs, e1]; rfl, rfl⟩ (by simp only [slotN, ruW, ASt.get, aget, ↓reduceIte, Nat.reduceLT, Nat.reduceEqDiff, eq_self]; omega)
    · have d1 : decide ((k : Int) < n) = false := decide_eq_false g
      rw [if_neg g] at hs
      cases ok with
      | false =>
        (repeat' (first | simp (maxSteps := 5000000) (implicitDefEqProofs := false) only [ruA, ruB, aEv, aBin, bin2, ASt.get, aget, ASt.put, ↓reduceIte, Nat.reduceLT, Nat.reduceEqDiff, eq_self, d0, d1] | (with_reducible refine aIf_split (fun _ => ?_) (fun _ => ?_)) | (with_reducible refine aSel_split (fun _ => ?_) (fun _ => ?_)) | (with_reducible refine aGd_split (fun _ => ?_) (fun _ => ?_)) | (with_reducible refine aDraw_quiet (by kernel_rfl) ?_)))
        all_goals exact roundI (weak_cut1 (by (first | ((simp only [envIn, tabIn, envLt, tabLt, AObj.lt, AV.lt, AV.ltL, ruW, ASt.get, aget, ↓reduceIte, Nat.reduceLT, Nat.reduceEqDiff, eq_self]) <;> (repeat' apply And.intro) <;> first | (rw [wrapK (by omega)]; done) | (simp; done) | omega) | fail))) ⟨k + 1, false, by omega, by rw [hs]; rfl, rfl⟩ (by simp only [slotN, ruW, ASt.get, aget, ↓reduceIte, Nat.reduceLT, Nat.reduceEqDiff, eq_self]; omega)
      | true =>
        have e1 : (s == 0) = decide (s = 0) := by by_cases h : s = 0 <;> simp [h]
        (repeat' (first | simp (maxSteps := 5000000) (implicitDefEqProofs := false) only [ruA, ruB, aEv, aTake, aLoad, aBin, bin2, ASt.get, aget, ASt.put, ↓reduceIte, Nat.reduceLT, Nat.reduceEqDiff, Nat.reduceAdd, eq_self, tyA_36, tyS_36, d0, d1] | (with_reducible refine aIf_split (fun _ => ?_) (fun _ => ?_)) | (with_reducible refine aSel_split (fun _ => ?_) (fun _ => ?_)) | (with_reducible refine aGd_split (fun _ => ?_) (fun _ => ?_)) | (with_reducible refine aDraw_quiet (by kernel_rfl) ?_) | ((with_reducible apply callV); exact (hS)) | ((with_reducible apply callD); exact (hS))))
        all_goals exact roundI (weak_cut1 (by (first | ((simp only [envIn, tabIn, envLt, tabLt, AObj.lt, AV.lt, AV.ltL, ruW, ASt.get, aget, ↓reduceIte, Nat.reduceLT, Nat.reduceEqDiff, eq_self]) <;> (repeat' apply And.intro) <;> first | (rw [wrapK (by omega)]; done) | (simp; done) | omega) | fail))) ⟨k + 1, (s == 0), by omega, by rw [hs, e1]; rfl, rfl⟩ (by simp only [slotN, ruW, ASt.get, aget, ↓reduceIte, Nat.reduceLT, Nat.reduceEqDiff, eq_self]; omega)
  obtain rfl : k = 31 := by omega
  have d0 : decide (((31 : Nat) : Int) < 31) = false := rfl
  (repeat' (first | simp (maxSteps := 5000000) (implicitDefEqProofs := false) only [ruA, ruB, aEv, aBin, bin2, ASt.get, aget, ASt.put, ↓reduceIte, Nat.reduceLT, Nat.reduceEqDiff, eq_self, d0] | (with_reducible refine aIf_split (fun _ => ?_) (fun _ => ?_)) | (with_reducible refine aSel_split (fun _ => ?_) (fun _ => ?_)) | (with_reducible refine aGd_split (fun _ => ?_) (fun _ => ?_)) | (with_reducible refine aDraw_quiet (by kernel_rfl) ?_)))
  clear hk
  refine aLoop_of (fun st => ∃ (i : Nat) (o : Bool) (x : Int), i ≤ z.cls.length ∧ o = okB z.cls n i ∧ x = (nextN (z.cls.take i) : Int) ∧ st = ⟨88, [(1, eI n), (2, eI m), (3, .op 0 0 0), (7, .c (.bool o)), (9, eI x), (10, eI (i : Int))], [(0, some (.box 36 (eZn z)))], 1⟩) (fun st => z.cls.length - slotN st 10) ⟨_, (weak_cut1 (by (first | ((simp only [envIn, tabIn, envLt, tabLt, AObj.lt, AV.lt, AV.ltL, ruW, ASt.get, aget, ↓reduceIte, Nat.reduceLT, Nat.reduceEqDiff, eq_self]) <;> (repeat' apply And.intro) <;> first | (rw [wrapK (by omega)]; done) | (simp; done) | omega) | fail))), 0, ok, 0, Nat.zero_le _, by rw [hok]; simp [okB], rfl, rfl⟩ ?_
  rintro _ ⟨i, o, x, hi, ho, hx, rfl⟩
  by_cases hlt : i < z.cls.length
  · have hnx : (nextN (z.cls.take (i + 1)) : Int) = x + (if z.cls[i].const = -1 then 0 else 1) := by rw [List.take_succ_eq_append_getElem hlt, nextN_snoc, hx]; split <;> simp
    have hnl : x ≤ 1000000 := by have := nextN_le (z.cls.take i); rw [List.length_take] at this; omega
    have hs := okB_snoc z.cls n hlt
    rw [← ho] at hs
    unfold clsOkB at hs
    rw [← hx] at hs
    have hx0 : 0 ≤ x := by omega
    clear hx ho
    generalize hc : z.cls[i] = c at *
    obtain ⟨g1, d1⟩ : ∃ b, decide (0 ≤ c.attrs) = b := ⟨_, rfl⟩
    obtain ⟨g2, d2⟩ : ∃ b, decide (c.attrs < 2147483648) = b := ⟨_, rfl⟩
    obtain ⟨g3, d3⟩ : ∃ b, decide (0 < c.attrs) = b := ⟨_, rfl⟩
    obtain ⟨g4, d4⟩ : ∃ b, decide (0 ≤ c.const) = b := ⟨_, rfl⟩
    obtain ⟨g5, d5⟩ : ∃ b, (c.const == -1) = b := ⟨_, rfl⟩
    obtain ⟨g6, d6⟩ : ∃ b, (c.const == x) = b := ⟨_, rfl⟩
    have d7 : (c.const != -1) = !g5 := by rw [← d5]; rfl
    have ew : IntKind.i64.wrap (x + 1) = x + 1 := wrap_in (by omega) (by omega)
    rw [d1, d2, d3, d4, d5, d6] at hs
    have hnx2 : (nextN (z.cls.take (i + 1)) : Int) = if g5 = true then x else x + 1 := by
      rw [hnx, ← d5]
      by_cases h : c.const = -1 <;> simp [h]
    clear hnx
    cases o <;> cases g5
    · (repeat' (first | simp (maxSteps := 5000000) (implicitDefEqProofs := false) only [ruA, ruB, aEv, aTake, aLoad, aField, aIndex, aLen, aBin, bin2, ASt.get, aget, ASt.put, aStore, aBox, aCells, oneC, oneCL, Value.cells, Value.oneCell', ↓reduceIte, reduceCtorEq, Nat.reduceLT, Nat.reduceEqDiff, Nat.reduceAdd, Nat.reduceLeDiff, eq_self, ne_eq, tyF_36_0, tyA_33, tyS_33, tyE_33, tyA_63, tyS_63, tyZ_63, tyA_3, tyS_3, tyF_63_1, row_at, hlt, hc, d7, ew] | (with_reducible refine aIf_split (fun _ => ?_) (fun _ => ?_)) | (with_reducible refine aSel_split (fun _ => ?_) (fun _ => ?_)) | (with_reducible refine aGd_split (fun _ => ?_) (fun _ => ?_)) | (with_reducible refine aDraw_quiet (by kernel_rfl) ?_)))
      all_goals exact roundI (weak_cut1 (by (first | ((simp only [envIn, tabIn, envLt, tabLt, AObj.lt, AV.lt, AV.ltL, ruW, ASt.get, aget, ↓reduceIte, reduceCtorEq, Nat.reduceLT, Nat.reduceEqDiff, eq_self]) <;> (repeat' apply And.intro) <;> first | (rw [wrapK (by omega)]; done) | (simp; done) | omega) | fail))) ⟨i + 1, false, x + 1, by omega, by rw [hs]; rfl, by rw [hnx2]; rfl, rfl⟩ (by simp only [slotN, ruW, ASt.get, aget, ↓reduceIte, Nat.reduceLT, Nat.reduceEqDiff, eq_self]; omega)
    · (repeat' (first | simp (maxSteps := 5000000) (implicitDefEqProofs := false) only [ruA, ruB, aEv, aTake, aLoad, aField, aIndex, aLen, aBin, bin2, ASt.get, aget, ASt.put, aStore, aBox, aCells, oneC, oneCL, Value.cells, Value.oneCell', ↓reduceIte, reduceCtorEq, Nat.reduceLT, Nat.reduceEqDiff, Nat.reduceAdd, Nat.reduceLeDiff, eq_self, ne_eq, tyF_36_0, tyA_33, tyS_33, tyE_33, tyA_63, tyS_63, tyZ_63, tyA_3, tyS_3, tyF_63_1, row_at, hlt, hc, d7] | (with_reducible refine aIf_split (fun _ => ?_) (fun _ => ?_)) | (with_reducible refine aSel_split (fun _ => ?_) (fun _ => ?_)) | (with_reducible refine aGd_split (fun _ => ?_) (fun _ => ?_)) | (with_reducible refine aDraw_quiet (by kernel_rfl) ?_)))
      all_goals exact roundI (weak_cut1 (by (first | ((simp only [envIn, tabIn, envLt, tabLt, AObj.lt, AV.lt, AV.ltL, ruW, ASt.get, aget, ↓reduceIte, reduceCtorEq, Nat.reduceLT, Nat.reduceEqDiff, eq_self]) <;> (repeat' apply And.intro) <;> first | (rw [wrapK (by omega)]; done) | (simp; done) | omega) | fail))) ⟨i + 1, false, x, by omega, by rw [hs]; rfl, by rw [hnx2]; rfl, rfl⟩ (by simp only [slotN, ruW, ASt.get, aget, ↓reduceIte, Nat.reduceLT, Nat.reduceEqDiff, eq_self]; omega)
    · cases g1 <;> cases g2 <;> cases g3 <;> cases g4 <;> cases g6 <;>
      ((repeat' (first | simp (maxSteps := 5000000) (implicitDefEqProofs := false) only [ruA, ruB, aEv, aTake, aLoad, aField, aIndex, aLen, aBin, bin2, ASt.get, aget, ASt.put, aStore, aBox, aCells, oneC, oneCL, Value.cells, Value.oneCell', ↓reduceIte, reduceCtorEq, Nat.reduceLT, Nat.reduceEqDiff, Nat.reduceAdd, Nat.reduceLeDiff, eq_self, ne_eq, tyF_36_0, tyA_33, tyS_33, tyE_33, tyA_63, tyS_63, tyZ_63, tyF_63_0, tyA_3, tyS_3, tyF_63_1, row_at, hlt, hc, d1, d2, d3, d4, d5, d6, d7, ew] | (with_reducible refine aIf_split (fun _ => ?_) (fun _ => ?_)) | (with_reducible refine aSel_split (fun _ => ?_) (fun _ => ?_)) | (with_reducible refine aGd_split (fun _ => ?_) (fun _ => ?_)) | (with_reducible refine aDraw_quiet (by kernel_rfl) ?_)))
       all_goals first | exact roundI (weak_cut1 (by (first | ((simp only [envIn, tabIn, envLt, tabLt, AObj.lt, AV.lt, AV.ltL, ruW, ASt.get, aget, ↓reduceIte, reduceCtorEq, Nat.reduceLT, Nat.reduceEqDiff, eq_self]) <;> (repeat' apply And.intro) <;> first | (rw [wrapK (by omega)]; done) | (simp; done) | omega) | fail))) ⟨i + 1, true, x + 1, by omega, by rw [hs]; rfl, by rw [hnx2]; rfl, rfl⟩ (by simp only [slotN, ruW, ASt.get, aget, ↓reduceIte, Nat.reduceLT, Nat.reduceEqDiff, eq_self]; omega) | exact roundI (weak_cut1 (by (first | ((simp only [envIn, tabIn, envLt, tabLt, AObj.lt, AV.lt, AV.ltL, ruW, ASt.get, aget, ↓reduceIte, reduceCtorEq, Nat.reduceLT, Nat.reduceEqDiff, eq_self]) <;> (repeat' apply And.intro) <;> first | (rw [wrapK (by omega)]; done) | (simp; done) | omega) | fail))) ⟨i + 1, false, x + 1, by omega, by rw [hs]; rfl, by rw [hnx2]; rfl, rfl⟩ (by simp only [slotN, ruW, ASt.get, aget, ↓reduceIte, Nat.reduceLT, Nat.reduceEqDiff, eq_self]; omega))
    · cases g1 <;> cases g2 <;> cases g3 <;> cases g4 <;>
      ((repeat' (first | simp (maxSteps := 5000000) (implicitDefEqProofs := false) only [ruA, ruB, aEv, aTake, aLoad, aField, aIndex, aLen, aBin, bin2, ASt.get, aget, ASt.put, aStore, aBox, aCells, oneC, oneCL, Value.cells, Value.oneCell', ↓reduceIte, reduceCtorEq, Nat.reduceLT, Nat.reduceEqDiff, Nat.reduceAdd, Nat.reduceLeDiff, eq_self, ne_eq, tyF_36_0, tyA_33, tyS_33, tyE_33, tyA_63, tyS_63, tyZ_63, tyF_63_0, tyA_3, tyS_3, tyF_63_1, row_at, hlt, hc, d1, d2, d3, d4, d5, d7] | (with_reducible refine aIf_split (fun _ => ?_) (fun _ => ?_)) | (with_reducible refine aSel_split (fun _ => ?_) (fun _ => ?_)) | (with_reducible refine aGd_split (fun _ => ?_) (fun _ => ?_)) | (with_reducible refine aDraw_quiet (by kernel_rfl) ?_)))
       all_goals first | exact roundI (weak_cut1 (by (first | ((simp only [envIn, tabIn, envLt, tabLt, AObj.lt, AV.lt, AV.ltL, ruW, ASt.get, aget, ↓reduceIte, reduceCtorEq, Nat.reduceLT, Nat.reduceEqDiff, eq_self]) <;> (repeat' apply And.intro) <;> first | (rw [wrapK (by omega)]; done) | (simp; done) | omega) | fail))) ⟨i + 1, true, x, by omega, by rw [hs]; rfl, by rw [hnx2]; rfl, rfl⟩ (by simp only [slotN, ruW, ASt.get, aget, ↓reduceIte, Nat.reduceLT, Nat.reduceEqDiff, eq_self]; omega) | exact roundI (weak_cut1 (by (first | ((simp only [envIn, tabIn, envLt, tabLt, AObj.lt, AV.lt, AV.ltL, ruW, ASt.get, aget, ↓reduceIte, reduceCtorEq, Nat.reduceLT, Nat.reduceEqDiff, eq_self]) <;> (repeat' apply And.intro) <;> first | (rw [wrapK (by omega)]; done) | (simp; done) | omega) | fail))) ⟨i + 1, false, x, by omega, by rw [hs]; rfl, by rw [hnx2]; rfl, rfl⟩ (by simp only [slotN, ruW, ASt.get, aget, ↓reduceIte, Nat.reduceLT, Nat.reduceEqDiff, eq_self]; omega))
  · obtain rfl : i = z.cls.length := by omega
    rw [List.take_length] at hx
    have e1 : decide ((nextN z.cls : Int) = m) = (x == m) := by rw [hx]; by_cases h : (nextN z.cls : Int) = m <;> simp [h]
    rw [e1, ← ho]
    cases o with
    | false =>
      (repeat' (first | simp (maxSteps := 5000000) (implicitDefEqProofs := false) only [ruA, ruB, aEv, aTake, aLoad, aField, aLen, aBin, bin2, ASt.get, aget, ASt.put, aResL, aOne, ↓reduceIte, reduceCtorEq, Nat.reduceLT, Nat.reduceEqDiff, Nat.reduceAdd, Nat.reduceLeDiff, eq_self, ne_eq, tyF_36_0, tyA_33, tyS_33, tyE_33, hlt] | (with_reducible refine aIf_split (fun _ => ?_) (fun _ => ?_)) | (with_reducible refine aSel_split (fun _ => ?_) (fun _ => ?_)) | (with_reducible refine aGd_split (fun _ => ?_) (fun _ => ?_)) | (with_reducible refine aDraw_quiet (by kernel_rfl) ?_)))
      all_goals simp
    | true =>
      (repeat' (first | simp (maxSteps := 5000000) (implicitDefEqProofs := false) only [ruA, ruB, aEv, aTake, aLoad, aField, aLen, aBin, bin2, ASt.get, aget, ASt.put, aResL, aOne, ↓reduceIte, reduceCtorEq, Nat.reduceLT, Nat.reduceEqDiff, Nat.reduceAdd, Nat.reduceLeDiff, eq_self, ne_eq, tyF_36_0, tyA_33, tyS_33, tyE_33, hlt] | (with_reducible refine aIf_split (fun _ => ?_) (fun _ => ?_)) | (with_reducible refine aSel_split (fun _ => ?_) (fun _ => ?_)) | (with_reducible refine aGd_split (fun _ => ?_) (fun _ => ?_)) | (with_reducible refine aDraw_quiet (by kernel_rfl) ?_)))
      all_goals simp
end
section
open Go.RowKit
theorem has_bit {x : Cls} (h : 0 ≤ x.attrs ∧ x.attrs < 2147483648) {a : Nat} (ha : a < 31) : hasB x.attrs (a : Int) = (aN x).testBit a := by
  rw [hasB_low _ _ ha]
  congr 1
  unfold low aN
  omega
theorem sits_two {l : List Cls} {a : Int} {i j : Nat} (hij : i < j) (hj : j < l.length) (h1 : hasB (l[i]'(by omega)).attrs a = true) (h2 : hasB l[j].attrs a = true) : 2 ≤ sitsN l a := by
  have e : sitsN l a = sitsN (l.take j) a + sitsN (l.drop j) a := by
    unfold sitsN
    rw [← List.countP_append, List.take_append_drop]
  have p1 : 0 < sitsN (l.take j) a := List.countP_pos_iff.2 ⟨l[i], List.mem_take_iff_getElem.2 ⟨i, by omega, rfl⟩, h1⟩
  have p2 : 0 < sitsN (l.drop j) a := List.countP_pos_iff.2 ⟨l[j], by rw [List.drop_eq_getElem_cons hj]; exact List.mem_cons_self .., h2⟩
  omega
theorem sits_le_one {a : Int} : ∀ l : List Cls, (∀ i j (hi : i < l.length) (hj : j < l.length), hasB l[i].attrs a = true → hasB l[j].attrs a = true → i = j) → sitsN l a ≤ 1
  | [], _ => by simp [sitsN]
  | x :: l, h => by
    have ih := sits_le_one l fun i j hi hj h1 h2 => by
      have := h (i + 1) (j + 1) (by simpa using hi) (by simpa using hj) (by simpa using h1) (by simpa using h2)
      omega
    by_cases hx : hasB x.attrs a = true
    · have hz : sitsN l a = 0 := List.countP_eq_zero.2 fun y hy hb => by
        obtain ⟨j, hj, rfl⟩ := List.getElem_of_mem hy
        have := h 0 (j + 1) (by simp) (by simpa using hj) (by simpa using hx) (by simpa using hb)
        omega
      unfold sitsN at *
      rw [List.countP_cons, hz, if_pos hx]
      exact Nat.le_refl _
    · unfold sitsN at *
      rw [List.countP_cons, if_neg hx]
      exact ih
theorem okA_all (l : List Cls) (n : Int) (k : Nat) : okA l n k = true ↔ ∀ a : Nat, a < k → (sitsN l (a : Int) : Int) = if (a : Int) < n then 1 else 0 := by
  unfold okA
  rw [List.all_eq_true]
  simp only [List.mem_range, decide_eq_true_eq]
theorem clsOkB_iff (l : List Cls) (x : Cls) : clsOkB l x = true ↔ (0 ≤ x.attrs ∧ x.attrs < 2147483648) ∧ (0 < x.attrs ∨ 0 ≤ x.const) ∧ (x.const = -1 ∨ x.const = (nextN l : Int)) := by
  unfold clsOkB
  simp only [Bool.and_eq_true, Bool.or_eq_true, decide_eq_true_eq, beq_iff_eq]
  constructor
  · rintro ⟨⟨⟨h1, h2⟩, h3⟩, h4⟩
    exact ⟨⟨h1, h2⟩, h3, h4⟩
  · rintro ⟨⟨h1, h2⟩, h3, h4⟩
    exact ⟨⟨⟨h1, h2⟩, h3⟩, h4⟩
theorem okB_all (l : List Cls) (n : Int) : okB l n l.length = true ↔ okA l n 31 = true ∧ ∀ i (h : i < l.length), clsOkB (l.take i) l[i] = true := by
  unfold okB
  rw [Bool.and_eq_true, List.all_eq_true]
  constructor
  · rintro ⟨h1, h2⟩
    refine ⟨h1, fun i h => ?_⟩
    have := h2 i (List.mem_range.2 h)
    rwa [List.getD_eq_getElem?_getD, List.getElem?_eq_getElem h] at this
  · rintro ⟨h1, h2⟩
    refine ⟨h1, fun i h => ?_⟩
    have := h2 i (List.mem_range.1 h)
    rwa [List.getD_eq_getElem?_getD, List.getElem?_eq_getElem (List.mem_range.1 h)]
theorem formed_doc (l : List Cls) (n : Nat) (m : Int) (hn : n ≤ 31) (hat : ∀ x ∈ l, x.attrs < 9223372036854775808) : (okB l (n : Int) l.length && decide ((nextN l : Int) = m)) = true ↔ FormedP l (n : Int) m := by
  rw [Bool.and_eq_true, decide_eq_true_eq, okB_all, okA_all]
  constructor
  · rintro ⟨⟨hA, hC⟩, hm⟩
    have hc := fun i h => (clsOkB_iff _ _).1 (hC i h)
    have hnn : ∀ x ∈ l, 0 ≤ x.attrs ∧ x.attrs < 2147483648 := fun x hx => by
      obtain ⟨i, hi, rfl⟩ := List.getElem_of_mem hx
      exact (hc i hi).1
    have hb31 : ∀ x ∈ l, ∀ q, (aN x).testBit q = true → q < 31 := fun x hx q hq => by
      rcases Nat.lt_or_ge q 31 with h | h
      · exact h
      · have h2 : aN x < 2 ^ q := Nat.lt_of_lt_of_le (show aN x < 2 ^ 31 by have := hnn x hx; unfold aN; omega) (Nat.pow_le_pow_right (by omega) h)
        rw [Nat.testBit_lt_two_pow h2] at hq
        cases hq
    have hdis : ∀ i j (hi : i < l.length) (hj : j < l.length) (q : Nat), i < j → (aN l[i]).testBit q = true → (aN l[j]).testBit q = true → False := fun i j hi hj q hij h1 h2 => by
      have hq := hb31 _ (List.getElem_mem hi) q h1
      rw [← has_bit (hnn _ (List.getElem_mem hi)) hq] at h1
      rw [← has_bit (hnn _ (List.getElem_mem hj)) hq] at h2
      have := sits_two hij hj h1 h2
      have h5 := hA q hq
      split at h5 <;> omega
    refine ⟨fun i h => ⟨(hc i h).1.1, ?_, ?_, (hc i h).2.2⟩, ?_, hm⟩
    · obtain ⟨B, hB, hBlt, hBb⟩ := atts_nat (l.take i) fun x hx => by have := hnn x (List.mem_of_mem_take hx); omega
      have h0 := (hc i h).1
      have e1 : l[i].attrs = ((aN l[i] : Nat) : Int) := by unfold aN; omega
      rw [hB, e1, and_63 _ _ (by unfold aN; omega) hBlt]
      have : aN l[i] &&& B = 0 := Nat.eq_of_testBit_eq fun q => by
        rw [Nat.zero_testBit, Nat.testBit_and]
        cases h1 : (aN l[i]).testBit q with
        | false => rfl
        | true =>
          cases h2 : B.testBit q with
          | false => rfl
          | true =>
            obtain ⟨x, hx, hb⟩ := (hBb q).1 h2
            obtain ⟨j, hj, rfl⟩ := List.mem_take_iff_getElem.1 hx
            exact (hdis j i (by omega) h q (by omega) hb h1).elim
      rw [this]
      rfl
    · rintro ⟨h1, h2⟩
      have := (hc i h).2.1
      omega
    · obtain ⟨A, hA1, hA2, hA3⟩ := atts_nat l fun x hx => by have := hnn x hx; omega
      have e : (max 0 (min (n : Int) 31)).toNat = n := by omega
      have h3 : 1 ≤ 2 ^ n := Nat.one_le_two_pow
      have h4 : ((2 ^ n - 1 : Nat) : Int) = (2 : Int) ^ n - 1 := by rw [Int.natCast_sub h3]; simp
      rw [hA1]
      unfold firstI
      rw [e, ← h4]
      congr 1
      refine Nat.eq_of_testBit_eq fun q => ?_
      rw [Nat.testBit_two_pow_sub_one]
      rw [Bool.eq_iff_iff, hA3, decide_eq_true_eq]
      constructor
      · rintro ⟨x, hx, hb⟩
        have hq := hb31 x hx q hb
        rw [← has_bit (hnn x hx) hq] at hb
        have h5 := hA q hq
        have h6 : 0 < sitsN l (q : Int) := List.countP_pos_iff.2 ⟨x, hx, hb⟩
        split at h5 <;> omega
      · intro hq
        have h5 := hA q (by omega)
        rw [if_pos (by omega)] at h5
        obtain ⟨x, hx, hb⟩ := List.countP_pos_iff.1 (show 0 < sitsN l (q : Int) by omega)
        rw [has_bit (hnn x hx) (by omega)] at hb
        exact ⟨x, hx, hb⟩
  · intro h
    have hB := zb_of hn h hat
    refine ⟨⟨fun a ha => ?_, fun i hi => (clsOkB_iff _ _).2 ⟨hB.nn _ (List.getElem_mem hi), ?_, (h.1 i hi).2.2.2⟩⟩, h.2.2⟩
    · have hle := sits_le_one (a := (a : Int)) l fun i j hi hj h1 h2 => by
        rw [has_bit (hB.nn _ (List.getElem_mem hi)) ha] at h1
        rw [has_bit (hB.nn _ (List.getElem_mem hj)) ha] at h2
        exact hB.dis i j hi hj a h1 h2
      split
      · obtain ⟨i, hi, hb⟩ := hB.all a (by omega)
        rw [← has_bit (hB.nn _ (List.getElem_mem hi)) ha] at hb
        have h6 : 0 < sitsN l (a : Int) := List.countP_pos_iff.2 ⟨_, List.getElem_mem hi, hb⟩
        omega
      · have : sitsN l (a : Int) = 0 := List.countP_eq_zero.2 fun x hx hb => by
          rw [has_bit (hB.nn x hx) ha] at hb
          have := hB.lt x hx a hb
          omega
        omega
    · have h1 := (h.1 i hi).2.2
      have h2 := (h.1 i hi).1
      rcases h1.2 with h3 | h3
      · have : ¬ l[i].attrs = 0 := fun h4 => h1.1 ⟨h4, h3⟩
        omega
      · omega
end
end Go.Proofs.YtbahakgmbceflaaGreat
