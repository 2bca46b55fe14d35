/-
  Parts of the proof: E6, E7, E8, E9.
-/
import Derived.Test.YtfocnmkbnccilaaGreatRun13
set_option linter.unusedVariables false
set_option linter.unusedSimpArgs false
namespace Go.Proofs.YtfocnmkbnccilaaGreat
section
open Go.RowKit
/-- sets of a state are numbers of 64 bits -/
structure OkS (s : St) : Prop where
  opn : ok64 s.opn
  don : ok64 s.don
  did : ∀ x ∈ s.did, ok64 x
set_option maxRecDepth 100000 in
set_option maxHeartbeats 8000000 in
theorem may19_A (m : Mod) (s : St) (v : Mv) (hf : Fit m) (hr : ∀ p ∈ m.roles, ok64 p.2) (hs : OkS s) : ADet Tryz.prog 20 [.agg (eMod m), .agg (eSt s), .agg (eMv v)] (val (.int .i64 (mayM m s v))) := by
  refine adet_of_code mixedT Tryz.func20 rfl (by decide) Tryz.ntmps20 Tryz.results20 rfl (val_ok _) ?_
  obtain ⟨hgl, hml, hsl, hel, hal, hul, hrl, hsol, hol, hil⟩ := id hf.sizes
  obtain ⟨ve, vu, vv⟩ := v
  have hany := anyR_A m s (by omega) (by omega) (by omega) (by omega) hs.opn hs.don hr hs.did
  have hchk := checkR_A m s (by omega) hs.opn hs.don hs.did
  cases hid : idleM ⟨ve, vu, vv⟩ with
  | true =>
    unfold mayM
    simp only [hid]
    (repeat' (first | simp (maxSteps := 5000000) (implicitDefEqProofs := false) only [ruA, ruB, aEv, aTake, aLoad, aUn, un1, ASt.get, aget, ASt.put, aBox, aCells, oneC, oneCL, Value.oneCell', envOf, aResL, aOne, ↓reduceIte, reduceCtorEq, Nat.reduceLT, Nat.reduceEqDiff, Nat.reduceAdd, eq_self, tyA_32, tyS_32, tyA_47, tyS_47, tyA_51, tyS_51, hid] | (with_reducible refine aIf_split (fun _ => ?_) (fun _ => ?_)) | (with_reducible refine aSel_split (fun _ => ?_) (fun _ => ?_)) | (with_reducible refine aGd_split (fun _ => ?_) (fun _ => ?_)) | (with_reducible refine aDraw_quiet (by kernel_rfl) ?_) | ((with_reducible apply callV); exact (hchk)) | ((with_reducible apply callD); exact (hchk)) | ((with_reducible apply callV (g := 21)); exact (idleR_A ⟨ve, vu, vv⟩)) | ((with_reducible apply callD (g := 21)); exact (idleR_A ⟨ve, vu, vv⟩)) | ((with_reducible apply callV); exact (hany)) | ((with_reducible apply callD); exact (hany))))
    all_goals grind
  | false =>
    have henb := enabledR_A m s ve vu (by omega) (by omega) hs.opn hs.don hr hs.did
    cases hen : enabledM m s ve vu with
    | false =>
      unfold mayM
      simp only [hid, hen]
      (repeat' (first | simp (maxSteps := 5000000) (implicitDefEqProofs := false) only [ruA, ruB, aEv, aTake, aLoad, aField, aUn, un1, ASt.get, aget, ASt.put, aBox, aCells, oneC, oneCL, Value.oneCell', envOf, aResL, aOne, ↓reduceIte, reduceCtorEq, Nat.reduceLT, Nat.reduceEqDiff, Nat.reduceAdd, Nat.reduceLeDiff, eq_self, tyA_32, tyS_32, tyA_47, tyS_47, tyA_51, tyS_51, tyF_51_0, tyA_3, tyS_3, tyF_51_1, hid, hen] | (with_reducible refine aIf_split (fun _ => ?_) (fun _ => ?_)) | (with_reducible refine aSel_split (fun _ => ?_) (fun _ => ?_)) | (with_reducible refine aGd_split (fun _ => ?_) (fun _ => ?_)) | (with_reducible refine aDraw_quiet (by kernel_rfl) ?_) | ((with_reducible apply callV); exact (hchk)) | ((with_reducible apply callD); exact (hchk)) | ((with_reducible apply callV (g := 21)); exact (idleR_A ⟨ve, vu, vv⟩)) | ((with_reducible apply callD (g := 21)); exact (idleR_A ⟨ve, vu, vv⟩)) | ((with_reducible apply callV); exact (henb)) | ((with_reducible apply callD); exact (henb))))
      all_goals grind
    | true =>
      obtain ⟨k, rfl, hk, hk2⟩ := evAt_some hen
      have hsl : setsLen m (k : Int) = m.events[k].sets.length := by simp [setsLen, hk]
      unfold mayM
      simp only [hid, hen, hsl]
      (repeat' (first | simp (maxSteps := 5000000) (implicitDefEqProofs := false) only [ruA, ruB, aEv, aTake, aLoad, aField, aIndex, aLen, aBin, bin2, aUn, un1, ASt.get, aget, ASt.put, aBox, aCells, oneC, oneCL, Value.oneCell', envOf, aResL, aOne, ↓reduceIte, reduceCtorEq, Nat.reduceLT, Nat.reduceEqDiff, Nat.reduceAdd, Nat.reduceLeDiff, eq_self, ne_eq, tyA_32, tyS_32, tyA_47, tyS_47, tyA_51, tyS_51, tyF_51_0, tyA_3, tyS_3, tyF_51_1, tyF_51_2, tyA_23, tyS_23, tyE_23, tyF_32_5, tyA_26, tyS_26, tyE_26, tyF_61_3, tyA_45, tyS_45, tyE_45, hid, hen, row_at, hk] | (with_reducible refine aIf_split (fun _ => ?_) (fun _ => ?_)) | (with_reducible refine aSel_split (fun _ => ?_) (fun _ => ?_)) | (with_reducible refine aGd_split (fun _ => ?_) (fun _ => ?_)) | (with_reducible refine aDraw_quiet (by kernel_rfl) ?_) | ((with_reducible apply callV); exact (hchk)) | ((with_reducible apply callD); exact (hchk)) | ((with_reducible apply callV (g := 21)); exact (idleR_A ⟨(k : Int), vu, vv⟩)) | ((with_reducible apply callD (g := 21)); exact (idleR_A ⟨(k : Int), vu, vv⟩)) | ((with_reducible apply callV); exact (henb)) | ((with_reducible apply callD); exact (henb))))
      all_goals grind
set_option maxRecDepth 100000 in
set_option maxHeartbeats 8000000 in
theorem do19_A (m : Mod) (s : St) (v : Mv) (hf : Fit m) (hfs : FitS s) (hvl : v.vals.length ≤ 1000000) (hp : ∀ p ∈ m.stages, ok64 p.2) (hr : ∀ p ∈ m.roles, ok64 p.2) (hs : OkS s) (ht : ∀ e ∈ m.events, ok64 e.times) :
    ADet Tryz.prog 13 [.agg (eMod m), .agg (eSt s), .agg (eMv v)] ⟨.tup [.agg (eSt (doM m s v).1), eI (doM m s v).2], [], 0⟩ := by
  refine ARel.tree (Post := fun R => ∃ ids, (R.frzs ids).r.lt 0 ∧ FitsT (R.frzs ids).r (.tup [.agg (eSt (doM m s v).1), eI (doM m s v).2])) ?_ (by simp [AV.lt, AV.ltL]) fun R h => h
  refine arel_of_code mixedT Tryz.func13 rfl (by decide) Tryz.ntmps13 Tryz.results13 rfl ?_
  have hmay := may19_A m s v hf hr hs
  have hnil : FitsT (.tup [.agg [.c (.slice none 0 0), eI 0, eI 0, .c (.slice none 0 0), .c (.slice none 0 0)], eI (mayM m s v)]) (.tup [.agg (eSt stNil), eI (mayM m s v)]) := .tup ⟨.agg ⟨.nil 1, .refl _, .refl _, .nil 1, .nil 1, trivial⟩, .one (.refl _), trivial⟩
  have hz : ((0 : Int) != 0) = false := by decide
  by_cases h0 : mayM m s v = 0
  · cases hid : idleM v with
    | true =>
      have ed : doM m s v = (s, 0) := by simp [doM, h0, hid]
      rw [ed]
      (repeat' (first | simp (maxSteps := 5000000) (implicitDefEqProofs := false) only [ruA, ruB, aEv, aTake, aLoad, aBin, bin2, ASt.get, aget, ASt.put, aStore, aBox, aCells, oneC, oneCL, Value.cells, Value.oneCell', envOf, aResL, aOne, ↓reduceIte, reduceCtorEq, Nat.reduceLT, Nat.reduceEqDiff, Nat.reduceAdd, eq_self, tyA_47, tyS_47, tyZ_47, tyA_32, tyS_32, tyA_51, tyS_51, h0, hz, hid] | (with_reducible refine aIf_split (fun _ => ?_) (fun _ => ?_)) | (with_reducible refine aSel_split (fun _ => ?_) (fun _ => ?_)) | (with_reducible refine aGd_split (fun _ => ?_) (fun _ => ?_)) | (with_reducible refine aDraw_quiet (by kernel_rfl) ?_) | ((with_reducible apply callV); exact (hmay)) | ((with_reducible apply callD); exact (hmay)) | ((with_reducible apply callV (g := 21)); exact (idleR_A v)) | ((with_reducible apply callD (g := 21)); exact (idleR_A v))))
      all_goals first
        | exact retT (by simp [AV.ren, AV.renL]) (by simp [AV.lt, AV.ltL]) (.tup ⟨.one (.refl _), .one (.refl _), trivial⟩)
        | trace_state
    | false =>
      have ed : doM m s v = (passM m v.event (takeM m s v) m.order.length, 0) := by simp [doM, h0, hid]
      rw [ed]
      have hen : enabledM m s v.event v.user = true ∧ v.vals.length = setsLen m v.event ∧ chkS m s = true := by
        unfold mayM at h0
        grind
      obtain ⟨k, hke, hk, hk2⟩ := evAt_some hen.1
      have hsl : setsLen m v.event = m.events[k].sets.length := by simp [setsLen, hk, hke]
      obtain ⟨hl1, hl2, hl3⟩ := hfs
      have hck := hen.2.2
      unfold chkS at hck
      simp only [Bool.and_eq_true, decide_eq_true_eq] at hck
      obtain ⟨⟨⟨⟨⟨hc1, hc2⟩, hc3⟩, hc4⟩, hc5⟩, hall⟩ := hck
      have hd : k < s.did.length := by omega
      have hcn : k < s.cnt.length := by omega
      have hat := (allN_iff _ _).1 hall k hk
      simp only [chkAt, List.getD_eq_getElem?_getD, List.getElem?_eq_getElem hd, List.getElem?_eq_getElem hcn, List.getElem?_eq_getElem hk, Option.getD_some, Option.map_some, Bool.and_eq_true, decide_eq_true_eq] at hat
      have hfm : freeM m s v.event v.user = true := by
        have h2 := hen.1
        unfold enabledM at h2
        simp only [Bool.and_eq_true] at h2
        exact h2.1
      unfold freeM at hfm
      rw [hk2] at hfm
      simp only [Bool.and_eq_true, Bool.or_eq_true, decide_eq_true_eq] at hfm
      have hus : 0 ≤ v.user ∧ v.user < 31 := by
        have h3 := hfm.1.2
        unfold ofR at h3
        simp only [Bool.and_eq_true, decide_eq_true_eq] at h3
        have := hf.sizes.2.2.2.2.2.1
        omega
      have hfree : 0 < m.events[k].times → s.cnt[k] < m.events[k].times := fun h1 => by
        have h3 := hfm.2
        unfold atI at h3
        rw [hke, if_pos (by omega)] at h3
        simp only [Int.toNat_natCast, List.getD_eq_getElem?_getD, List.getElem?_eq_getElem hcn, Option.getD_some] at h3
        omega
      have htm := ht _ (List.getElem_mem hk)
      unfold ok64 at htm
      have htk := take19_A m s v k m.events[k] hke hk rfl hd hcn (by omega) hus (hs.did _ (List.getElem_mem hd)) hc3 (by omega) (by omega) (by omega) (by omega) (fun h1 => by have := hfree h1; omega)
      have hopn : (takeM m s v).opn = s.opn ∧ (takeM m s v).don = s.don := by unfold takeM; split <;> exact ⟨rfl, rfl⟩
      have hps := pass18_A m (takeM m s v) v.event hf hp (by rw [hopn.1]; exact ofB_31 hc4) (by rw [hopn.2]; exact ofB_31 hc5)
      (repeat' (first | simp (maxSteps := 5000000) (implicitDefEqProofs := false) only [ruA, ruB, aEv, aTake, aLoad, ASt.get, aget, ASt.put, aBox, aCells, oneC, oneCL, Value.cells, Value.oneCell', envOf, ↓reduceIte, reduceCtorEq, Nat.reduceLT, Nat.reduceEqDiff, Nat.reduceAdd, eq_self, tyA_47, tyS_47, tyZ_47, tyA_32, tyS_32, tyA_51, tyS_51] | (with_reducible refine aIf_split (fun _ => ?_) (fun _ => ?_)) | (with_reducible refine aSel_split (fun _ => ?_) (fun _ => ?_)) | (with_reducible refine aGd_split (fun _ => ?_) (fun _ => ?_))))
      refine callV hmay ?_
      (repeat' (first | simp (maxSteps := 5000000) (implicitDefEqProofs := false) only [ruA, ruB, aEv, aTake, aLoad, aBin, bin2, ASt.get, aget, ASt.put, ↓reduceIte, Nat.reduceLT, Nat.reduceEqDiff, Nat.reduceAdd, eq_self, tyA_51, tyS_51, h0, hz] | (with_reducible refine aIf_split (fun _ => ?_) (fun _ => ?_)) | (with_reducible refine aSel_split (fun _ => ?_) (fun _ => ?_)) | (with_reducible refine aGd_split (fun _ => ?_) (fun _ => ?_))))
      refine callV (by exact idleR_A v) ?_
      (repeat' (first | simp (maxSteps := 5000000) (implicitDefEqProofs := false) only [ruA, aEv, ASt.get, aget, ASt.put, ↓reduceIte, Nat.reduceLT, eq_self, hid] | (with_reducible refine aIf_split (fun _ => ?_) (fun _ => ?_)) | (with_reducible refine aSel_split (fun _ => ?_) (fun _ => ?_)) | (with_reducible refine aGd_split (fun _ => ?_) (fun _ => ?_))))
      refine aDraw_held [3] [0, 1, 2, 3, 5, 6] (.exec 4 (.exec 7 (.exec 8 (.exec 9 .done)))) (by kernel_rfl) (by simp [ATab.get_cons]) ?_
      (repeat' (first | simp (maxSteps := 5000000) (implicitDefEqProofs := false) only [ruA, ruB, aEv, aTake, aLoad, aField, ASt.get, aget, ASt.put, aCells, oneC, oneCL, Value.oneCell', aResL, aOne, ↓reduceIte, reduceCtorEq, Nat.reduceLT, Nat.reduceEqDiff, Nat.reduceAdd, Nat.reduceLeDiff, eq_self, aExecS, aStoreB, aTakes, aFrom, AV.shift, AV.shiftL, aMay, tyA_47, tyS_47, tyA_32, tyS_32, tyA_51, tyS_51, tyF_51_0, tyA_3, tyS_3] | (with_reducible refine aIf_split (fun _ => ?_) (fun _ => ?_)) | (with_reducible refine aSel_split (fun _ => ?_) (fun _ => ?_)) | (with_reducible refine aGd_split (fun _ => ?_) (fun _ => ?_)) | (with_reducible refine aDraw_quiet (by kernel_rfl) ?_) | ((with_reducible apply callT); exact (htk); exact (.inl (by simp [roL, roA, treeL, treeC]))) | ((with_reducible apply callT); exact (hps); exact (.inl (by simp [roL, roA, treeL, treeC])))))
      all_goals first
        | exact retT (by simp [AV.ren, AV.renL]) (by simp [AV.lt, AV.ltL]) (.tup ⟨.one (.refl _), .one (.refl _), trivial⟩)
        | trace_state
  · have ed : doM m s v = (stNil, mayM m s v) := by simp [doM, h0]
    have h0' : (mayM m s v != 0) = true := by simp [h0]
    rw [ed]
    (repeat' (first | simp (maxSteps := 5000000) (implicitDefEqProofs := false) only [ruA, ruB, aEv, aTake, aLoad, aBin, bin2, ASt.get, aget, ASt.put, aStore, aBox, aBuild, aFill, oneParts, aCells, oneC, oneCL, Value.cells, Value.oneCell', envOf, aResL, aOne, ↓reduceIte, reduceCtorEq, Nat.reduceLT, Nat.reduceEqDiff, Nat.reduceAdd, eq_self, tyA_47, tyS_47, tyZ_47, tyA_32, tyS_32, tyA_51, tyS_51, tyB_47, h0'] | (with_reducible refine aIf_split (fun _ => ?_) (fun _ => ?_)) | (with_reducible refine aSel_split (fun _ => ?_) (fun _ => ?_)) | (with_reducible refine aGd_split (fun _ => ?_) (fun _ => ?_)) | (with_reducible refine aDraw_quiet (by kernel_rfl) ?_) | ((with_reducible apply callV); exact (hmay)) | ((with_reducible apply callD); exact (hmay)) | ((with_reducible apply callV (g := 21)); exact (idleR_A v)) | ((with_reducible apply callD (g := 21)); exact (idleR_A v))))
    all_goals first
      | exact retT (by simp [AV.ren, AV.renL]) (by simp [AV.lt, AV.ltL]) hnil
      | trace_state
end
section
open Go.RowKit
/-! ### what runs are -/
/-- how many are so, from the first one on -/
def goodN (f : Nat → Bool) : Nat → Nat
  | 0 => 0
  | n + 1 => if goodN f n = n ∧ f n = true then n + 1 else goodN f n
theorem goodN_le (f : Nat → Bool) : ∀ n, goodN f n ≤ n
  | 0 => Nat.le_refl _
  | n + 1 => by
    have := goodN_le f n
    unfold goodN
    split <;> omega
theorem goodN_all (f : Nat → Bool) : ∀ n i, i < goodN f n → f i = true
  | 0, i, h => by simp [goodN] at h
  | n + 1, i, h => by
    unfold goodN at h
    split at h
    · rename_i h2
      rcases Nat.lt_or_ge i n with h3 | h3
      · exact goodN_all f n i (by omega)
      · obtain rfl : i = n := by omega
        exact h2.2
    · exact goodN_all f n i h
theorem goodN_stop (f : Nat → Bool) : ∀ n, goodN f n < n → f (goodN f n) = false
  | 0, h => by simp [goodN] at h
  | n + 1, h => by
    have hle := goodN_le f n
    unfold goodN at h ⊢
    split at h
    · omega
    · rename_i h2
      rw [if_neg h2]
      by_cases h3 : goodN f n = n
      · rw [h3]
        cases hf : f n
        · rfl
        · exact absurd ⟨h3, hf⟩ h2
      · exact goodN_stop f n (by omega)
theorem goodN_eq (f : Nat → Bool) {n k : Nat} (hk : k ≤ n) (h1 : ∀ i, i < k → f i = true) (h2 : k < n → f k = false) : goodN f n = k := by
  have hle := goodN_le f n
  rcases Nat.lt_trichotomy (goodN f n) k with h | h | h
  · have := goodN_stop f n (by omega)
    rw [h1 _ h] at this
    cases this
  · exact h
  · have := goodN_all f n k h
    rw [h2 (by omega)] at this
    cases this
theorem goodN_ge (f : Nat → Bool) {n k : Nat} (hk : k ≤ n) (h1 : ∀ i, i < k → f i = true) : k ≤ goodN f n := by
  rcases Nat.lt_or_ge (goodN f n) k with h | h
  · have := goodN_stop f n (by omega)
    rw [h1 _ h] at this
    cases this
  · exact h
def mvNil : Mv := ⟨0, 0, []⟩
noncomputable def stN (m : Mod) (l : List Mv) : Nat → St
  | 0 => beginM m
  | k + 1 => (doM m (stN m l k) (l.getD k mvNil)).1
noncomputable def errN (m : Mod) (l : List Mv) (k : Nat) : Int := (doM m (stN m l k) (l.getD k mvNil)).2
noncomputable def okN (m : Mod) (l : List Mv) (k : Nat) : Bool := errN m l k == 0
noncomputable def runK (m : Mod) (l : List Mv) : Nat := goodN (okN m l) l.length
noncomputable def runErr (m : Mod) (l : List Mv) : Int := if runK m l = l.length then 0 else errN m l (runK m l)
noncomputable def runSt (m : Mod) (l : List Mv) : List St := (List.range (runK m l + 1)).map (stN m l)
theorem runSt_len (m : Mod) (l : List Mv) : (runSt m l).length = runK m l + 1 := by simp [runSt]
theorem runSt_at (m : Mod) (l : List Mv) {i : Nat} (h : i < (runSt m l).length) : (runSt m l)[i] = stN m l i := by simp [runSt]
/-- a state as it comes in a run -/
structure GoodS (s : St) : Prop where
  vals : s.vals.length ≤ 10
  did : s.did.length ≤ 10
  cnt : s.cnt.length ≤ 10
  ok : OkS s
  nums : ∀ x ∈ s.vals, ok64 x
theorem GoodS.fit {s : St} (h : GoodS s) : FitS s := by
  have h1 := h.vals
  have h2 := h.did
  have h3 := h.cnt
  unfold FitS
  omega
theorem zero_in31 : in31 0 := by unfold in31; omega
theorem good_begin (m : Mod) (hf : Fit m) (hi : ∀ x ∈ m.inits, ok64 x) : GoodS (beginM m) := by
  obtain ⟨h1, h2, h3⟩ := fold_vals m (-1) (m.order.take m.order.length) (startS m)
  have h4 := turns_31 m (-1) (m.order.take m.order.length) (startS m) ⟨zero_in31, zero_in31⟩
  obtain ⟨-, -, -, hel, -, -, -, -, -, hil⟩ := id hf.sizes
  unfold beginM passM
  refine ⟨by rw [h1]; exact hil, by rw [h2]; simp [startS]; omega, by rw [h3]; simp [startS]; omega, ⟨in31_ok h4.1, in31_ok h4.2, fun x hx => ?_⟩, fun x hx => ?_⟩
  · rw [h2] at hx
    simp only [startS] at hx
    rw [(List.mem_replicate.1 hx).2]
    exact in31_ok zero_in31
  · rw [h1] at hx
    exact hi x hx
theorem good_nil : GoodS stNil := ⟨by simp [stNil], by simp [stNil], by simp [stNil], ⟨in31_ok zero_in31, in31_ok zero_in31, by simp [stNil]⟩, by simp [stNil]⟩
theorem good_do (m : Mod) (s : St) (v : Mv) (hg : GoodS s) (hv : ∀ x ∈ v.vals, ok64 x) : GoodS (doM m s v).1 := by
  unfold doM
  split
  · rename_i hmay
    split
    · exact hg
    · have hen : chkS m s = true := by
        unfold mayM at hmay
        grind
      unfold chkS at hen
      simp only [Bool.and_eq_true, decide_eq_true_eq] at hen
      obtain ⟨⟨⟨⟨⟨hc1, hc2⟩, hc3⟩, hc4⟩, hc5⟩, -⟩ := hen
      obtain ⟨h1, h2, h3⟩ := fold_vals m v.event (m.order.take m.order.length) (takeM m s v)
      have ht : (takeM m s v).opn = s.opn ∧ (takeM m s v).don = s.don ∧ (takeM m s v).vals.length = s.vals.length ∧ (takeM m s v).did.length = s.did.length ∧ (takeM m s v).cnt.length = s.cnt.length ∧ ∀ x ∈ (takeM m s v).did, ok64 x := by
        unfold takeM
        split
        · exact ⟨rfl, rfl, rfl, rfl, rfl, hg.ok.did⟩
        · refine ⟨rfl, rfl, setVals_len .., by simp, ?_, fun x hx => ?_⟩
          · simp only
            split <;> simp
          · rcases List.mem_or_eq_of_mem_set hx with h | h
            · exact hg.ok.did x h
            · rw [h]
              exact in31_ok (withB_31 _ _)
      have h4 := turns_31 m v.event (m.order.take m.order.length) (takeM m s v) ⟨by rw [ht.1]; exact ofB_31 hc4, by rw [ht.2.1]; exact ofB_31 hc5⟩
      have g1 := hg.vals
      have g2 := hg.did
      have g3 := hg.cnt
      unfold passM
      refine ⟨by rw [h1, ht.2.2.1]; exact g1, by rw [h2, ht.2.2.2.1]; exact g2, by rw [h3, ht.2.2.2.2.1]; exact g3, ⟨in31_ok h4.1, in31_ok h4.2, fun x hx => ?_⟩, fun x hx => ?_⟩
      · rw [h2] at hx
        exact ht.2.2.2.2.2 x hx
      · rw [h1] at hx
        exact take_vals m s v hg.nums hv x hx
  · exact good_nil
/-- what is asked of moves -/
structure GoodMs (l : List Mv) : Prop where
  len : l.length ≤ 41
  vals : ∀ v ∈ l, v.vals.length ≤ 50
  nums : ∀ v ∈ l, ∀ x ∈ v.vals, ok64 x
theorem good_stN (m : Mod) (l : List Mv) (hf : Fit m) (hi : ∀ x ∈ m.inits, ok64 x) (hl : GoodMs l) : ∀ k, GoodS (stN m l k)
  | 0 => good_begin m hf hi
  | k + 1 => good_do m _ _ (good_stN m l hf hi hl k) fun x hx => by
    by_cases hk : k < l.length
    · rw [List.getD_eq_getElem?_getD, List.getElem?_eq_getElem hk] at hx
      exact hl.nums _ (List.getElem_mem hk) x hx
    · rw [List.getD_eq_getElem?_getD, List.getElem?_eq_none (by omega)] at hx
      simp [mvNil] at hx
noncomputable def runPre (m : Mod) (l : List Mv) (k : Nat) : List St := (List.range (k + 1)).map (stN m l)
theorem runPre_len (m : Mod) (l : List Mv) (k : Nat) : (runPre m l k).length = k + 1 := by simp [runPre]
theorem runPre_at (m : Mod) (l : List Mv) (k i : Nat) (h : i < (runPre m l k).length) : (runPre m l k)[i] = stN m l i := by simp [runPre]
abbrev sSts (l : List St) : AV := .sl 5 (l.map eSt)
theorem range_snoc {α : Type} (f : Nat → α) (k : Nat) : (List.range (k + 1)).map f = (List.range k).map f ++ [f k] := by
  rw [List.range_succ, List.map_append]
  rfl
/-- what is asked of a model -/
structure GoodM (m : Mod) : Prop where
  fit : Fit m
  cond : condOk m
  pars : ∀ p ∈ m.stages, ok64 p.2
  inits : ∀ x ∈ m.inits, ok64 x
  roles : ∀ p ∈ m.roles, ok64 p.2
  times : ∀ e ∈ m.events, ok64 e.times
set_option maxRecDepth 100000 in
set_option maxHeartbeats 8000000 in
theorem allR_A (m : Mod) (l : List Mv) (hm : GoodM m) (hl : GoodMs l) : ADet Tryz.prog 14 [.agg (eMod m), sMvs l] ⟨.tup [sSts (runSt m l), eI (runErr m l)], [], 0⟩ := by
  refine ADet.still (R := ⟨.tup [.osl 0, eI (runErr m l)], [(0, some (.row 47 5 ((runSt m l).map eSt)))], 1⟩) [0] ?_ (by simp [Res.frzs, Res.frz, ATab.get_cons, AV.frz, AV.frzL, frzTab, AObj.frz]) (by simp [AV.lt, AV.ltL])
  refine adet_of_code mixedT Tryz.func14 rfl (by decide) Tryz.ntmps14 Tryz.results14 rfl (tab_ok (by simp [tabLt, AObj.lt]) (by simp [AV.lt, AV.ltL])) ?_
  have hlen := hl.len
  have e0 : (runPre m l 0).map eSt = [eSt (beginM m)] := rfl
  (repeat' (first | simp (maxSteps := 5000000) (implicitDefEqProofs := false) only [ruA, ruB, aEv, aTake, aLoad, ASt.get, aget, ASt.put, aBox, aBuildSlice, aCells, oneC, oneCL, treeC, treeL, aLit, Value.cells, Value.oneCell', envOf, ↓reduceIte, Nat.reduceLT, Nat.reduceEqDiff, Nat.reduceAdd, Nat.reduceMul, Nat.reduceLeDiff, eq_self, aBuildSlice1, frzs, ownIds, AV.shift, AV.shiftL, tyA_32, tyS_32, tyR_41] | (with_reducible refine aIf_split (fun _ => ?_) (fun _ => ?_)) | (with_reducible refine aSel_split (fun _ => ?_) (fun _ => ?_)) | (with_reducible refine aGd_split (fun _ => ?_) (fun _ => ?_)) | (with_reducible refine aDraw_quiet (by kernel_rfl) ?_) | ((with_reducible apply callT (g := 24)); exact (begin19_A m hm.fit hm.pars); exact (.inl (by simp [roL, roA, treeL, treeC])))))
  refine ⟨rfl, ?_⟩
  refine aLoop_of (fun st => ∃ k : Nat, k ≤ l.length ∧ (∀ i, i < k → okN m l i = true) ∧ st = ⟨41, [(1, sMvs l), (2, .op 0 0 0), (6, .osl 1), (7, eI (k : Int))], [(0, some (.box 32 (eMod m))), (1, some (.row 47 5 ((runPre m l k).map eSt)))], 2⟩) (fun st => l.length - slotN st 7) ⟨_, (weak_cut1 (by (first | ((simp only [envIn, tabIn, envLt, tabLt, AObj.lt, AV.lt, AV.ltL, ruW, ASt.get, aget, ↓reduceIte, reduceCtorEq, Nat.reduceLT, Nat.reduceEqDiff, eq_self, e0]) <;> (repeat' apply And.intro) <;> first | (rw [wrapK (by omega)]; done) | (simp; done) | omega) | fail))), 0, Nat.zero_le _, by simp, rfl⟩ ?_
  rintro _ ⟨k, hk, hok, rfl⟩
  by_cases hk2 : k < l.length
  · have hgs := good_stN m l hm.fit hm.inits hl k
    have hd := do19_A m (stN m l k) l[k] hm.fit hgs.fit (by have := hl.vals _ (List.getElem_mem hk2); omega) hm.pars hm.roles hgs.ok hm.times
    have hlk : l.getD k mvNil = l[k] := by rw [List.getD_eq_getElem?_getD, List.getElem?_eq_getElem hk2]; rfl
    have h1 : (doM m (stN m l k) l[k]).1 = stN m l (k + 1) := by rw [stN, hlk]
    have h2 : (doM m (stN m l k) l[k]).2 = errN m l k := by rw [errN, hlk]
    rw [h1, h2] at hd
    have hrow : k < (runPre m l k).length := by rw [runPre_len]; omega
    have hat : (runPre m l k)[k] = stN m l k := runPre_at ..
    have hlr : (runPre m l k).length ≤ 1000000 := by rw [runPre_len]; omega
    have hsn : (runPre m l (k + 1)).map eSt = (runPre m l k).map eSt ++ [eSt (stN m l (k + 1))] := by unfold runPre; rw [range_snoc (stN m l) (k + 1), List.map_append]; rfl
    (repeat' (first | simp (maxSteps := 5000000) (implicitDefEqProofs := false) only [ruA, ruB, aEv, aLen, aBin, bin2, ASt.get, aget, ASt.put, ↓reduceIte, Nat.reduceLT, Nat.reduceEqDiff, eq_self, ne_eq, tyE_33, hk2] | (with_reducible refine aIf_split (fun _ => ?_) (fun _ => ?_)) | (with_reducible refine aSel_split (fun _ => ?_) (fun _ => ?_)) | (with_reducible refine aGd_split (fun _ => ?_) (fun _ => ?_))))
    refine aDraw_held [] [0, 1, 2, 3, 4, 5, 6, 7, 8] (.two 9 (.take 10 (.take 11 (.take 12 (.exec 13 (.exec 14 (.exec 15 .done)))))) 13 (.exec 9 (.take 10 (.take 11 (.take 12 (.exec 14 (.exec 15 .done))))))) (by kernel_rfl) (by simp [ATab.get_cons]) ?_
    by_cases hek : errN m l k = 0
    · have hok' : ∀ i, i < k + 1 → okN m l i = true := fun i hi => by
        rcases Nat.lt_or_ge i k with h | h
        · exact hok i h
        · obtain rfl : i = k := by omega
          simp [okN, hek]
      have hz : ((0 : Int) != 0) = false := by decide
      (repeat' (first | simp (maxSteps := 5000000) (implicitDefEqProofs := false) only [ruA, ruB, aEv, aTake, aLoad, aIndex, aBin, bin2, aExtract, ASt.get, aget, ASt.put, aBox, aAppend, aBuildSlice, aCells, oneC, oneCL, treeC, treeL, aLit, aDst, aSrc, appTab, Value.cells, Value.oneCell', ↓reduceIte, Nat.reduceLT, Nat.reduceEqDiff, Nat.reduceAdd, Nat.reduceMul, Nat.reduceLeDiff, eq_self, aExecS, aStoreB, aTakes, aTakeE, aFrom, aBuildSlice1, frzs, ownIds, AV.shift, AV.shiftL, aMay, tyA_32, tyS_32, tyR_41, tyE_33, tyE_41, tyA_47, tyS_47, tyA_51, tyS_51, tyZ_47, row_at, hk2, hrow, hat, hz] | (with_reducible refine aIf_split (fun _ => ?_) (fun _ => ?_)) | (with_reducible refine aSel_split (fun _ => ?_) (fun _ => ?_)) | (with_reducible refine aGd_split (fun _ => ?_) (fun _ => ?_)) | (with_reducible refine aDraw_quiet (by kernel_rfl) ?_) | ((with_reducible apply callT); exact ((hek ▸ hd)); exact (.inl (by simp [roL, roA, treeL, treeC]))) | (with_reducible apply And.intro)))
      all_goals first
        | rfl
        | omega
        | exact roundI (weak_ren1 [0, 4] ⟨(by decide), (by (first | ((simp only [envInR, tabInR, envLt, tabLt, AObj.lt, AV.lt, AV.ltL, AV.ren, AV.renL, AObj.ren, List.getD_cons_zero, List.getD_cons_succ, List.length_cons, List.length_nil, ruW, ASt.get, aget, ↓reduceIte, reduceCtorEq, Nat.reduceLT, Nat.reduceEqDiff, Nat.reduceAdd, eq_self, hsn]) <;> (repeat' apply And.intro) <;> first | (rw [wrapK (by omega)]; done) | (simp; done) | omega) | fail))⟩) ⟨k + 1, by omega, hok', rfl⟩ (by simp only [slotN, ruW, ASt.get, aget, ↓reduceIte, Nat.reduceLT, Nat.reduceEqDiff, eq_self]; omega)
    · have hz : (errN m l k != 0) = true := by simp [hek]
      have hG : runK m l = k := goodN_eq _ hk hok fun _ => by simp [okN, hek]
      have hE : runErr m l = errN m l k := by unfold runErr; rw [if_neg (by omega), hG]
      have hR : runPre m l k = runSt m l := by unfold runSt runPre; rw [hG]
      (repeat' (first | simp (maxSteps := 5000000) (implicitDefEqProofs := false) only [ruA, ruB, aEv, aTake, aLoad, aIndex, aBin, bin2, aExtract, ASt.get, aget, ASt.put, aBox, aCells, oneC, oneCL, Value.cells, Value.oneCell', aResL, aOne, ↓reduceIte, Nat.reduceLT, Nat.reduceEqDiff, Nat.reduceAdd, eq_self, aExecS, aStoreB, aTakes, aTakeE, aFrom, AV.shift, AV.shiftL, aMay, tyA_32, tyS_32, tyE_33, tyE_41, tyA_47, tyS_47, tyA_51, tyS_51, tyZ_47, row_at, hk2, hrow, hat, hz] | (with_reducible refine aIf_split (fun _ => ?_) (fun _ => ?_)) | (with_reducible refine aSel_split (fun _ => ?_) (fun _ => ?_)) | (with_reducible refine aGd_split (fun _ => ?_) (fun _ => ?_)) | (with_reducible refine aDraw_quiet (by kernel_rfl) ?_) | ((with_reducible apply callT); exact (hd); exact (.inl (by simp [roL, roA, treeL, treeC]))) | (with_reducible apply And.intro)))
      all_goals first
        | exact ⟨[1], by decide, by simp [AV.ren, AV.renL, hE], by simp [aTabs, ATab.get_cons, hR]⟩
        | (exfalso; simp_all)
  · obtain rfl : k = l.length := by omega
    have hG : runK m l = l.length := goodN_eq _ (Nat.le_refl _) hok fun h => absurd h (Nat.lt_irrefl _)
    have hE : runErr m l = 0 := by unfold runErr; rw [if_pos hG]
    have hR : runPre m l l.length = runSt m l := by unfold runSt runPre; rw [hG]
    (repeat' (first | simp (maxSteps := 5000000) (implicitDefEqProofs := false) only [ruA, ruB, aEv, aLen, aBin, bin2, ASt.get, aget, ASt.put, aResL, aOne, ↓reduceIte, Nat.reduceLT, Nat.reduceEqDiff, eq_self, ne_eq, tyE_33, hk2] | (with_reducible refine aIf_split (fun _ => ?_) (fun _ => ?_)) | (with_reducible refine aSel_split (fun _ => ?_) (fun _ => ?_)) | (with_reducible refine aGd_split (fun _ => ?_) (fun _ => ?_)) | (with_reducible refine aDraw_quiet (by kernel_rfl) ?_)))
    exact ⟨[1], by decide, by simp [AV.ren, AV.renL, hE], by simp [aTabs, ATab.get_cons, hR]⟩
end
section
open Go.RowKit
/-- the states that are handed on, with the error of the move that led there -/
noncomputable def seqPre (m : Mod) (l : List Mv) (k : Nat) : List (List AV) := (runPre m l k).map fun s => [.agg (eSt s), eI 0]
noncomputable def seqL (m : Mod) (l : List Mv) : List (List AV) := (runSt m l).map (fun s => [.agg (eSt s), eI 0]) ++ if runK m l = l.length then [] else [[.agg (eSt (stN m l (runK m l + 1))), eI (runErr m l)]]
theorem seqPre_snoc (m : Mod) (l : List Mv) (k : Nat) : seqPre m l (k + 1) = seqPre m l k ++ [[.agg (eSt (stN m l (k + 1))), eI 0]] := by
  unfold seqPre runPre
  rw [range_snoc (stN m l) (k + 1), List.map_append]
  rfl
theorem seqPre_pre (m : Mod) (l : List Mv) {k : Nat} (h : k ≤ runK m l) : seqPre m l k <+: seqL m l := by
  refine List.IsPrefix.trans ?_ (List.prefix_append ..)
  unfold seqPre runSt runPre
  refine List.IsPrefix.map _ (List.IsPrefix.map _ ?_)
  rw [List.prefix_iff_eq_take, List.length_range, List.take_range, Nat.min_eq_left (by omega)]
theorem seqPre_end (m : Mod) (l : List Mv) (h : runK m l = l.length) : seqPre m l l.length = seqL m l := by
  unfold seqL seqPre
  rw [if_pos h, List.append_nil]
  congr 1
  unfold runSt runPre
  rw [h]
theorem seqPre_err (m : Mod) (l : List Mv) (h : runK m l < l.length) : seqPre m l (runK m l) ++ [[.agg (eSt (stN m l (runK m l + 1))), eI (runErr m l)]] = seqL m l := by
  unfold seqL seqPre
  rw [if_neg (by omega)]
  congr 1
set_option maxRecDepth 100000 in
set_option maxHeartbeats 8000000 in
theorem states1_A (m : Mod) (l : List Mv) (hm : GoodM m) (hl : GoodMs l) : ASeq Tryz.prog 27 [.rp (eMod m), .rp [sMvs l]] (seqL m l) := by
  have hlen := hl.len
  obtain ⟨hgl, hml, hsl, hel, hal, hul, hrl, hsol, hol, hil⟩ := id hm.fit.sizes
  refine aseq_of_code Tryz.func27 rfl (by decide) Tryz.ntmps27 Tryz.results27 rfl (by kernel_rfl) (by simp [treeL, treeC]) fun y => ?_
  have hp0 : ([] : List (List AV)) ++ [[.agg (eSt (stN m l 0)), eI 0]] <+: seqL m l := seqPre_pre m l (Nat.zero_le _)
  (repeat' (first | simp (maxSteps := 5000000) (implicitDefEqProofs := false) only [ruA, ruB, aEv, aTake, aLoad, ASt.get, aget, ASt.put, aStore, aBox, aCells, oneC, oneCL, Value.cells, Value.oneCell', envOf, ↓reduceIte, reduceCtorEq, Nat.reduceLT, Nat.reduceEqDiff, Nat.reduceAdd, eq_self, AV.shift, AV.shiftL, tyA_32, tyS_32, tyZ_47, tyS_47, tyA_47, ruI] | (with_reducible refine aIf_split (fun _ => ?_) (fun _ => ?_)) | (with_reducible refine aSel_split (fun _ => ?_) (fun _ => ?_)) | (with_reducible refine aGd_split (fun _ => ?_) (fun _ => ?_)) | (with_reducible refine aDraw_quiet (by kernel_rfl) ?_) | ((with_reducible apply callT (g := 28)); exact (begin_A m hm.fit hm.cond hm.pars hm.inits); exact (.inl (by simp [roL, roA, treeL, treeC])))))
  have e0 : stN m l 0 = beginM m := rfl
  refine ⟨⟨rfl, by simp [treeAL, treeA, treeL, treeC], hp0⟩, ?_, ?_⟩
  · (repeat' (first | simp (maxSteps := 5000000) (implicitDefEqProofs := false) only [ruA, ruB, aEv, aTake, aLoad, aLen, aUn, un1, ASt.get, aget, ASt.put, ↓reduceIte, reduceCtorEq, Nat.reduceLT, Nat.reduceEqDiff, eq_self, ne_eq, tyA_33, tyS_33, tyE_33, ruI] | (with_reducible refine aIf_split (fun _ => ?_) (fun _ => ?_)) | (with_reducible refine aSel_split (fun _ => ?_) (fun _ => ?_)) | (with_reducible refine aGd_split (fun _ => ?_) (fun _ => ?_))))
    refine iLoop_of (fun g st => ∃ k : Nat, k ≤ l.length ∧ (∀ i, i < k → okN m l i = true) ∧ g = (seqPre m l k, true) ∧ st = ⟨39, [(0, .c (.func (.yield y) #[] #[])), (1, .rp (eMod m)), (2, .rp [sMvs l]), (4, .op 0 0 0), (15, sMvs l), (16, eI (l.length : Int)), (17, eI (k : Int))], [(0, some (.box 47 (eSt (stN m l k))))], 1⟩) (fun g st => l.length - slotN st 17) ⟨_, (weak_cut1 (by (first | ((simp only [envIn, tabIn, envLt, tabLt, AObj.lt, AV.lt, AV.ltL, ruW, ASt.get, aget, ↓reduceIte, reduceCtorEq, Nat.reduceLT, Nat.reduceEqDiff, eq_self, e0]) <;> (repeat' apply And.intro) <;> first | (rw [wrapK (by omega)]; done) | (simp; done) | omega) | fail))), 0, Nat.zero_le _, by simp, rfl, rfl⟩ ?_
    rintro _ _ ⟨k, hk, hok, rfl, rfl⟩
    have hkG : k ≤ runK m l := goodN_ge _ hk hok
    by_cases hk2 : k < l.length
    · have hgs := good_stN m l hm.fit hm.inits hl k
      have hany := any_A m (stN m l k) (by omega) (by omega) (by omega) (by omega)
      have hd := do_A m (stN m l k) l[k] hm.fit hgs.fit (by have := hl.vals _ (List.getElem_mem hk2); omega) hm.cond hm.pars hgs.nums (hl.nums _ (List.getElem_mem hk2)) hm.times (fun _ => hany)
      have hlk : l.getD k mvNil = l[k] := by rw [List.getD_eq_getElem?_getD, List.getElem?_eq_getElem hk2]; rfl
      have h1 : (doM m (stN m l k) l[k]).1 = stN m l (k + 1) := by rw [stN, hlk]
      have h2 : (doM m (stN m l k) l[k]).2 = errN m l k := by rw [errN, hlk]
      rw [h1, h2] at hd
      (repeat' (first | simp (maxSteps := 5000000) (implicitDefEqProofs := false) only [ruA, ruB, aEv, aTake, aLoad, aIndex, aBin, bin2, aExtract, ASt.get, aget, ASt.put, aStore, aBox, aCells, oneC, oneCL, Value.cells, Value.oneCell', ↓reduceIte, reduceCtorEq, Nat.reduceLT, Nat.reduceEqDiff, Nat.reduceAdd, eq_self, AV.shift, AV.shiftL, tyA_32, tyS_32, tyZ_47, tyS_47, tyA_47, tyE_33, tyA_51, tyS_51, tyZ_51, ruI, row_at, hk2] | (with_reducible refine aIf_split (fun _ => ?_) (fun _ => ?_)) | (with_reducible refine aSel_split (fun _ => ?_) (fun _ => ?_)) | (with_reducible refine aGd_split (fun _ => ?_) (fun _ => ?_)) | (with_reducible refine aDraw_quiet (by kernel_rfl) ?_) | ((with_reducible apply callT); exact (hd); exact (.inl (by simp [roL, roA, treeL, treeC])))))
      by_cases hek : errN m l k = 0
      · have hok' : ∀ i, i < k + 1 → okN m l i = true := fun i hi => by
          rcases Nat.lt_or_ge i k with h | h
          · exact hok i h
          · obtain rfl : i = k := by omega
            simp [okN, hek]
        have hz : ((0 : Int) != 0) = false := by decide
        have hp := seqPre_pre m l (k := k + 1) (goodN_ge _ (by omega) hok')
        rw [seqPre_snoc] at hp
        rw [hek]
        refine ⟨⟨rfl, by simp [treeAL, treeA, treeL, treeC], hp⟩, ?_, ?_⟩
        · (repeat' (first | simp (maxSteps := 5000000) (implicitDefEqProofs := false) only [ruA, ruB, aEv, aTake, aLoad, aBin, bin2, aUn, un1, ASt.get, aget, ASt.put, aStore, aCells, oneC, oneCL, Value.oneCell', ↓reduceIte, reduceCtorEq, Nat.reduceLT, Nat.reduceEqDiff, Nat.reduceAdd, eq_self, tyS_47, tyA_47, ruI, hz] | (with_reducible refine aIf_split (fun _ => ?_) (fun _ => ?_)) | (with_reducible refine aSel_split (fun _ => ?_) (fun _ => ?_)) | (with_reducible refine aGd_split (fun _ => ?_) (fun _ => ?_))))
          exact iRoundI (weak_cut1 (by (first | ((simp only [envIn, tabIn, envLt, tabLt, AObj.lt, AV.lt, AV.ltL, ruW, ASt.get, aget, ↓reduceIte, reduceCtorEq, Nat.reduceLT, Nat.reduceEqDiff, eq_self]) <;> (repeat' apply And.intro) <;> first | (rw [wrapK (by omega)]; done) | (simp; done) | omega) | fail))) ⟨k + 1, by omega, hok', by rw [seqPre_snoc], rfl⟩ (by simp only [slotN, ruW, ASt.get, aget, ↓reduceIte, Nat.reduceLT, Nat.reduceEqDiff, eq_self]; omega)
        · (repeat' (first | simp (maxSteps := 5000000) (implicitDefEqProofs := false) only [ruA, ruB, aEv, aUn, un1, ASt.get, aget, ASt.put, ↓reduceIte, reduceCtorEq, Nat.reduceLT, Nat.reduceEqDiff, eq_self, ruI, iRet] | (with_reducible refine aIf_split (fun _ => ?_) (fun _ => ?_)) | (with_reducible refine aSel_split (fun _ => ?_) (fun _ => ?_)) | (with_reducible refine aGd_split (fun _ => ?_) (fun _ => ?_))))
          exact hp
      · have hz : (errN m l k != 0) = true := by simp [hek]
        have hG : runK m l = k := goodN_eq _ hk hok fun _ => by simp [okN, hek]
        have hE : runErr m l = errN m l k := by unfold runErr; rw [if_neg (by omega), hG]
        have hp := seqPre_err m l (by omega)
        rw [hG, hE] at hp
        have hpp : seqPre m l k ++ [[.agg (eSt (stN m l (k + 1))), eI (errN m l k)]] <+: seqL m l := by rw [← hp]; exact List.prefix_rfl
        refine ⟨⟨rfl, by simp [treeAL, treeA, treeL, treeC], by rw [← hp]; exact List.prefix_rfl⟩, ?_, ?_⟩
        · (repeat' (first | simp (maxSteps := 5000000) (implicitDefEqProofs := false) only [ruA, ruB, aEv, aBin, bin2, aUn, un1, ASt.get, aget, ASt.put, ↓reduceIte, forall_const, Nat.reduceLT, Nat.reduceEqDiff, eq_self, ruI, hz, iRet] | (with_reducible refine aIf_split (fun _ => ?_) (fun _ => ?_)) | (with_reducible refine aSel_split (fun _ => ?_) (fun _ => ?_)) | (with_reducible refine aGd_split (fun _ => ?_) (fun _ => ?_))))
          exact ⟨hp, hpp⟩
        · (repeat' (first | simp (maxSteps := 5000000) (implicitDefEqProofs := false) only [ruA, ruB, aEv, aUn, un1, ASt.get, aget, ASt.put, ↓reduceIte, reduceCtorEq, Nat.reduceLT, Nat.reduceEqDiff, eq_self, ruI, iRet] | (with_reducible refine aIf_split (fun _ => ?_) (fun _ => ?_)) | (with_reducible refine aSel_split (fun _ => ?_) (fun _ => ?_)) | (with_reducible refine aGd_split (fun _ => ?_) (fun _ => ?_))))
          exact hpp
    · obtain rfl : k = l.length := by omega
      have hG : runK m l = l.length := goodN_eq _ (Nat.le_refl _) hok fun h => absurd h (Nat.lt_irrefl _)
      (repeat' (first | simp (maxSteps := 5000000) (implicitDefEqProofs := false) only [ruA, ruB, aEv, aBin, bin2, ASt.get, aget, ASt.put, ↓reduceIte, forall_const, Nat.reduceLT, Nat.reduceEqDiff, eq_self, ruI, hk2, iRet] | (with_reducible refine aIf_split (fun _ => ?_) (fun _ => ?_)) | (with_reducible refine aSel_split (fun _ => ?_) (fun _ => ?_)) | (with_reducible refine aGd_split (fun _ => ?_) (fun _ => ?_))))
      exact ⟨seqPre_end m l hG, seqPre_pre m l (by omega)⟩
  · (repeat' (first | simp (maxSteps := 5000000) (implicitDefEqProofs := false) only [ruA, ruB, aEv, aUn, un1, ASt.get, aget, ASt.put, ↓reduceIte, reduceCtorEq, Nat.reduceLT, eq_self, ruI, iRet] | (with_reducible refine aIf_split (fun _ => ?_) (fun _ => ?_)) | (with_reducible refine aSel_split (fun _ => ?_) (fun _ => ?_)) | (with_reducible refine aGd_split (fun _ => ?_) (fun _ => ?_))))
    exact hp0
set_option maxRecDepth 100000 in
set_option maxHeartbeats 8000000 in
theorem states_A (m : Mod) (l : List Mv) : ADet Tryz.prog 17 [.agg (eMod m), sMvs l] ⟨.fn 27 [.rp (eMod m), .rp [sMvs l]], [], 0⟩ := by
  refine arel_of_weak mixedT Tryz.func17 rfl (by decide) Tryz.ntmps17 Tryz.results17 rfl ?_
  (repeat' (first | simp (maxSteps := 5000000) (implicitDefEqProofs := false) only [ruA, ruB, aEv, ASt.get, aget, ASt.put, aBox, aCells, oneC, oneCL, envOf, ↓reduceIte, Nat.reduceLT, Nat.reduceEqDiff, Nat.reduceAdd, eq_self] | (with_reducible refine aIf_split (fun _ => ?_) (fun _ => ?_)) | (with_reducible refine aSel_split (fun _ => ?_) (fun _ => ?_)) | (with_reducible refine aGd_split (fun _ => ?_) (fun _ => ?_))))
  refine aTo_mk ((((weak_cut1 (by (first | ((simp only [envIn, tabIn, envLt, tabLt, AObj.lt, AV.lt, AV.ltL, ruW, ASt.get, aget, ↓reduceIte, reduceCtorEq, Nat.reduceLT, eq_self]) <;> (repeat' apply And.intro) <;> first | (rw [wrapK (by omega)]; done) | (simp; done) | omega) | fail))) : Weak _ ⟨6, [(4, .fn 27 [.op 0 0 0, .op 1 0 0])], [(0, some (.box 32 (eMod m))), (1, some (.box 33 [sMvs l]))], 2⟩).trans (weak_rp 0 (ty := 32) (cells := eMod m) (by simp [ATab.get_cons]) (by simp [treeL, treeC]) (by simp [treeTab, treeObj, treeL, treeC]))).trans (weak_rp 1 (ty := 33) (cells := [sMvs l]) (by simp [ATab.get_cons]) (by simp [treeL, treeC]) (by simp [treeTab, treeObj, treeL, treeC]))) ?_
  simp only [rpzEnv, AV.rpz, AV.rpzL, ↓reduceIte, List.drop_zero, Nat.succ_ne_self]
  simp (maxSteps := 5000000) (implicitDefEqProofs := false) only [ruA, ASt.get, aget, aResL, aOne, ↓reduceIte, Nat.reduceLT, eq_self]
  exact retC rfl (by simp [AV.lt, AV.ltL]) (by simp [AV.ren, AV.renL])
set_option maxRecDepth 100000 in
set_option maxHeartbeats 8000000 in
theorem all_A (m : Mod) (l : List Mv) (hm : GoodM m) (hl : GoodMs l) : ADet Tryz.prog 11 [.agg (eMod m), sMvs l] ⟨.tup [sSts (runSt m l), eI (runErr m l)], [], 0⟩ := by
  refine ADet.still (R := ⟨.tup [.osl 0, eI (runErr m l)], [(0, some (.row 47 5 ((runSt m l).map eSt)))], 1⟩) [0] ?_ (by simp [Res.frzs, Res.frz, ATab.get_cons, AV.frz, AV.frzL, frzTab, AObj.frz]) (by simp [AV.lt, AV.ltL])
  refine adet_of_code mixedT Tryz.func11 rfl (by decide) Tryz.ntmps11 Tryz.results11 rfl (tab_ok (by simp [tabLt, AObj.lt]) (by simp [AV.lt, AV.ltL])) ?_
  have hlen := hl.len
  (repeat' (first | simp (maxSteps := 5000000) (implicitDefEqProofs := false) only [ruA, ruB, aEv, aTake, aLoad, ASt.get, aget, ASt.put, aBox, aCells, oneC, oneCL, Value.cells, Value.oneCell', envOf, ↓reduceIte, reduceCtorEq, Nat.reduceLT, Nat.reduceEqDiff, Nat.reduceAdd, eq_self, AV.shift, AV.shiftL, tyZ_41, tyZ_37, tyA_32, tyS_32] | (with_reducible refine aIf_split (fun _ => ?_) (fun _ => ?_)) | (with_reducible refine aSel_split (fun _ => ?_) (fun _ => ?_)) | (with_reducible refine aGd_split (fun _ => ?_) (fun _ => ?_)) | (with_reducible refine aDraw_quiet (by kernel_rfl) ?_) | ((with_reducible apply callT (g := 17)); exact (states_A m l); exact (.inl (by simp [roL, roA, treeL, treeC])))))
  have hxl : ∀ x ∈ seqL m l, x.length = 2 := fun x hx => by
    unfold seqL at hx
    rcases List.mem_append.1 hx with hx | hx
    · obtain ⟨s, _, rfl⟩ := List.mem_map.1 hx
      rfl
    · split at hx
      · cases hx
      · simp at hx
        rw [hx]
        rfl
  refine range_ok mixedT (fun pre st => pre.length ≤ (runSt m l).length ∧ st = ⟨23, [(4, .op 1 0 0), (5, .op 2 0 0), (6, .op 3 0 0)], [(1, some (.box 41 [.c (.slice none 0 0)])), (2, some (.box 37 [eI 0])), (3, some (.box 41 [.osl 4])), (4, some (.row 47 5 (((runSt m l).take pre.length).map eSt)))], 5⟩)
    (fun c pre st => c = .ret ∧ st = ⟨23, [(4, .op 1 0 0), (5, .op 2 0 0)], [(1, some (.box 41 [.osl 4])), (2, some (.box 37 [eI (runErr m l)])), (4, some (.row 47 5 ((runSt m l).map eSt)))], 5⟩)
    (by simp (maxSteps := 5000000) (implicitDefEqProofs := false) only [ruA, ruB, aEv, ASt.get, aget, ↓reduceIte, Nat.reduceLT, eq_self]) (by simp [treeL, treeC]) (states1_A m l hm hl) hxl (by kernel_rfl) (by kernel_rfl)
    (aTo_mk ((weak_nilbox 3 0 47 5 (t := 41) (cells := [.c (.slice none 0 0)]) (by simp [ATab.get_cons]) rfl).trans (weak_cut1 (by (first | ((simp only [envIn, tabIn, envLt, tabLt, AObj.lt, AV.lt, AV.ltL, ruW, ASt.get, aget, ↓reduceIte, Nat.reduceLT, Nat.reduceEqDiff, eq_self, List.set_cons_zero, List.take_zero, List.length_nil]) <;> (repeat' apply And.intro) <;> first | (rw [wrapK (by omega)]; done) | (simp; done) | omega) | fail)))) ⟨by simp, rfl⟩) ?_ ?_ ?_
  · rintro pre x _ hp ⟨hpl, rfl⟩
    have hx : (seqL m l)[pre.length]? = some x := by
      obtain ⟨t, ht⟩ := hp
      rw [← ht, List.append_assoc, List.getElem?_append_right (Nat.le_refl _), Nat.sub_self]
      rfl
    by_cases h1 : pre.length < (runSt m l).length
    · obtain ⟨s, hs⟩ : ∃ s, (runSt m l)[pre.length] = s := ⟨_, rfl⟩
      have ex : x = [.agg (eSt s), eI 0] := by
        unfold seqL at hx
        rw [List.getElem?_append_left (by rw [List.length_map]; exact h1), List.getElem?_map, List.getElem?_eq_getElem h1, hs] at hx
        simpa using hx.symm
      have hlx : (pre ++ [x]).length = pre.length + 1 := by simp
      have htk : ((runSt m l).take (pre ++ [x]).length).map eSt = ((runSt m l).take pre.length).map eSt ++ [eSt s] := by rw [hlx, take_snoc eSt (runSt m l) h1, hs]
      have htl : ((runSt m l).take pre.length).length ≤ 1000000 := by
        have := goodN_le (okN m l) l.length
        have h3 := runSt_len m l
        unfold runK at h3
        rw [List.length_take]
        omega
      obtain ⟨N, hN⟩ : ∃ N, pre ++ [x] = N := ⟨_, rfl⟩
      rw [hN] at hlx htk ⊢
      subst ex
      have hz : ((0 : Int) != 0) = false := by decide
      (repeat' (first | simp (maxSteps := 5000000) (implicitDefEqProofs := false) only [ruA, ruB, aEv, aTake, aLoad, aBin, bin2, ASt.get, aget, ASt.put, aStore, aBox, aAppend, aBuildSlice, aCells, oneC, oneCL, treeC, treeL, aLit, aDst, aSrc, appTab, Value.cells, Value.oneCell', ↓reduceIte, reduceCtorEq, Nat.reduceLT, Nat.reduceEqDiff, Nat.reduceAdd, Nat.reduceMul, Nat.reduceLeDiff, eq_self, aBuildSlice1, frzs, ownIds, tyA_41, tyS_41, tyZ_47, tyS_47, tyA_47, tyR_41, ruL, hz] | (with_reducible refine aIf_split (fun _ => ?_) (fun _ => ?_)) | (with_reducible refine aSel_split (fun _ => ?_) (fun _ => ?_)) | (with_reducible refine aGd_split (fun _ => ?_) (fun _ => ?_)) | (with_reducible refine aDraw_quiet (by kernel_rfl) ?_) | (with_reducible apply And.intro)))
      all_goals first
        | rfl
        | omega
        | exact aTo_mk (weak_ren1 [0, 1, 2, 3, 7] ⟨(by decide), (by (first | ((simp only [envInR, tabInR, envLt, tabLt, AObj.lt, AV.lt, AV.ltL, AV.ren, AV.renL, AObj.ren, List.getD_cons_zero, List.getD_cons_succ, List.length_cons, List.length_nil, ruW, ASt.get, aget, ↓reduceIte, Nat.reduceLT, Nat.reduceEqDiff, Nat.reduceAdd, eq_self, htk]) <;> (repeat' apply And.intro) <;> first | (rw [wrapK (by omega)]; done) | (simp; done) | omega) | fail))⟩) ⟨by omega, rfl⟩
        | trace_state
    · have hG : ¬ runK m l = l.length := fun hG => by
        unfold seqL at hx
        rw [if_pos hG, List.append_nil, List.getElem?_eq_none (by rw [List.length_map]; omega)] at hx
        cases hx
      have hG2 : runK m l < l.length := by have := goodN_le (okN m l) l.length; unfold runK at hG ⊢; omega
      have hpl' : pre.length = (runSt m l).length := by omega
      have ex : x = [.agg (eSt (stN m l (runK m l + 1))), eI (runErr m l)] := by
        unfold seqL at hx
        rw [if_neg hG, List.getElem?_append_right (by rw [List.length_map]; omega), List.length_map, hpl', Nat.sub_self] at hx
        simpa using hx.symm
      have hne : (runErr m l != 0) = true := by
        have := goodN_stop (okN m l) l.length hG2
        unfold runErr
        rw [if_neg hG]
        have h2 : (errN m l (runK m l) == 0) = false := this
        simpa [bne] using h2
      have htk : ((runSt m l).take pre.length).map eSt = (runSt m l).map eSt := by rw [hpl', List.take_length]
      obtain ⟨N, hN⟩ : ∃ N, pre ++ [x] = N := ⟨_, rfl⟩
      rw [hN]
      subst ex
      (repeat' (first | simp (maxSteps := 5000000) (implicitDefEqProofs := false) only [ruA, ruB, aEv, aTake, aLoad, aBin, bin2, ASt.get, aget, ASt.put, aStore, aBox, aCells, oneC, oneCL, Value.cells, Value.oneCell', ↓reduceIte, reduceCtorEq, Nat.reduceLT, Nat.reduceEqDiff, Nat.reduceAdd, eq_self, tyA_41, tyS_41, tyS_37, tyZ_47, tyS_47, ruL, hne] | (with_reducible refine aIf_split (fun _ => ?_) (fun _ => ?_)) | (with_reducible refine aSel_split (fun _ => ?_) (fun _ => ?_)) | (with_reducible refine aGd_split (fun _ => ?_) (fun _ => ?_)) | (with_reducible refine aDraw_quiet (by kernel_rfl) ?_)))
      exact aTo_mk (weak_cut1 (by (first | ((simp only [envIn, tabIn, envLt, tabLt, AObj.lt, AV.lt, AV.ltL, ruW, ASt.get, aget, ↓reduceIte, Nat.reduceLT, Nat.reduceEqDiff, eq_self, htk]) <;> (repeat' apply And.intro) <;> first | (rw [wrapK (by omega)]; done) | (simp; done) | omega) | fail))) rfl
  · rintro _ ⟨hpl, rfl⟩
    have hG : runK m l = l.length := Classical.byContradiction fun hG => by
      unfold seqL at hpl
      rw [if_neg hG] at hpl
      simp at hpl
      omega
    have hE : runErr m l = 0 := by unfold runErr; rw [if_pos hG]
    have hsl : (seqL m l).length = (runSt m l).length := by unfold seqL; rw [if_pos hG]; simp
    have htk : ((runSt m l).take (seqL m l).length) = runSt m l := by rw [hsl, List.take_length]
    rw [htk]
    (repeat' (first | simp (maxSteps := 5000000) (implicitDefEqProofs := false) only [ruA, ruB, aEv, aTake, aLoad, ASt.get, aget, ASt.put, aStore, aCells, oneC, oneCL, Value.cells, Value.oneCell', aResL, aOne, ↓reduceIte, reduceCtorEq, Nat.reduceLT, Nat.reduceEqDiff, eq_self, tyA_41, tyS_41, tyA_37, tyS_37] | (with_reducible refine aIf_split (fun _ => ?_) (fun _ => ?_)) | (with_reducible refine aSel_split (fun _ => ?_) (fun _ => ?_)) | (with_reducible refine aGd_split (fun _ => ?_) (fun _ => ?_)) | (with_reducible refine aDraw_quiet (by kernel_rfl) ?_)))
    exact ⟨[4], by decide, by simp [AV.ren, AV.renL, hE], by simp [aTabs, ATab.get_cons]⟩
  · rintro _ pre _ hp ⟨rfl, rfl⟩
    (repeat' (first | simp (maxSteps := 5000000) (implicitDefEqProofs := false) only [ruA, ruB, aTake, aLoad, ASt.get, aget, aResL, aOne, ↓reduceIte, reduceCtorEq, Nat.reduceLT, eq_self, tyA_41, tyS_41, tyA_37, tyS_37] | (with_reducible refine aIf_split (fun _ => ?_) (fun _ => ?_)) | (with_reducible refine aSel_split (fun _ => ?_) (fun _ => ?_)) | (with_reducible refine aGd_split (fun _ => ?_) (fun _ => ?_)) | (with_reducible refine aDraw_quiet (by kernel_rfl) ?_)))
    exact ⟨[4], by decide, by simp [AV.ren, AV.renL], by simp [aTabs, ATab.get_cons]⟩
set_option maxRecDepth 100000 in
set_option maxHeartbeats 8000000 in
theorem last_A (m : Mod) (l : List Mv) (hm : GoodM m) (hl : GoodMs l) : ADet Tryz.prog 15 [.agg (eMod m), sMvs l] ⟨.tup [.agg (eSt (stN m l (runK m l))), eI (runK m l : Int), eI (runErr m l)], [], 0⟩ := by
  have hok : (⟨.tup [.agg (eSt (stN m l (runK m l))), eI (runK m l : Int), eI (runErr m l)], [], 0⟩ : Res).Ok := ⟨fun id o h => (by cases h), by simp [AV.lt, AV.ltL]⟩
  refine adet_of_code mixedT Tryz.func15 rfl (by decide) Tryz.ntmps15 Tryz.results15 rfl (hok) ?_
  have h1 := runSt_len m l
  have h2 := goodN_le (okN m l) l.length
  have hlen := hl.len
  have hK : runK m l < (runSt m l).length := by omega
  have hat := runSt_at m l hK
  have ew : IntKind.i64.wrap ((((runSt m l).length : Nat) : Int) - 1) = ((runK m l : Nat) : Int) := by
    rw [h1]
    unfold runK at *
    rw [wrap_in (by omega) (by omega)]
    omega
  (repeat' (first | simp (maxSteps := 5000000) (implicitDefEqProofs := false) only [ruA, ruB, aEv, aTake, aLoad, aIndex, aLen, aBin, bin2, aExtract, ASt.get, aget, ASt.put, aStore, aBox, aCells, oneC, oneCL, Value.cells, Value.oneCell', envOf, aResL, aOne, ↓reduceIte, reduceCtorEq, Nat.reduceLT, Nat.reduceEqDiff, Nat.reduceAdd, eq_self, ne_eq, AV.shift, AV.shiftL, tyA_47, tyS_47, tyZ_47, tyA_32, tyS_32, tyE_41, ew, row_at, hK, hat] | (with_reducible refine aIf_split (fun _ => ?_) (fun _ => ?_)) | (with_reducible refine aSel_split (fun _ => ?_) (fun _ => ?_)) | (with_reducible refine aGd_split (fun _ => ?_) (fun _ => ?_)) | (with_reducible refine aDraw_quiet (by kernel_rfl) ?_) | ((with_reducible apply callT (g := 11)); exact (all_A m l hm hl); exact (.inl (by simp [roL, roA, treeL, treeC])))))
  exact gives_tree (by simp [AV.ren, AV.renL])
end
section
open Go.RowKit
theorem eq_of_take {a b : List Int} {k : Nat} (hl : a.length = b.length) (h : a.take k = b.take k) (hk : a.length ≤ k) : a = b := by
  rwa [List.take_of_length_le hk, List.take_of_length_le (by omega)] at h
set_option maxRecDepth 100000 in
theorem equal64_A (a b : List Int) (ha : a.length ≤ 1000000) : ADet Tryz.prog 25 [sI a, sI b] (val (.bool (decide (a = b)))) := by
  refine adet_of_code mixedT Tryz.func25 rfl (by decide) Tryz.ntmps25 Tryz.results25 rfl (val_ok _) ?_
  by_cases hl : a.length = b.length
  · have hl' : (((a.length : Nat) : Int) != ((b.length : Nat) : Int)) = false := by simp [hl]
    (repeat' (first | simp (maxSteps := 5000000) (implicitDefEqProofs := false) only [ruA, ruB, aEv, aLen, aBin, bin2, ASt.get, aget, ASt.put, envOf, ↓reduceIte, reduceCtorEq, Nat.reduceLT, Nat.reduceEqDiff, eq_self, ne_eq, tyE_23, hl'] | (with_reducible refine aIf_split (fun _ => ?_) (fun _ => ?_)) | (with_reducible refine aSel_split (fun _ => ?_) (fun _ => ?_)) | (with_reducible refine aGd_split (fun _ => ?_) (fun _ => ?_))))
    refine aLoop_of (fun st => ∃ k : Nat, k ≤ a.length ∧ a.take k = b.take k ∧ st = ⟨26, [(0, sI a), (1, sI b), (12, eI (a.length : Int)), (13, eI (k : Int))], [], 0⟩) (fun st => a.length - slotN st 13) ⟨_, (weak_cut1 (by (first | ((simp only [envIn, tabIn, envLt, tabLt, AV.lt, ruW, ASt.get, aget, ↓reduceIte, reduceCtorEq, Nat.reduceLT, Nat.reduceEqDiff, eq_self]) <;> (repeat' apply And.intro) <;> first | (rw [wrapK (by omega)]; done) | (simp; done) | omega) | fail))), 0, Nat.zero_le _, rfl, rfl⟩ ?_
    rintro _ ⟨k, hk, hI, rfl⟩
    by_cases hk2 : k < a.length
    · have hk3 : k < b.length := by omega
      (repeat' (first | simp (maxSteps := 5000000) (implicitDefEqProofs := false) only [ruA, ruB, aEv, aBin, bin2, ASt.get, aget, ASt.put, ↓reduceIte, Nat.reduceLT, Nat.reduceEqDiff, eq_self, hk2] | (with_reducible refine aIf_split (fun _ => ?_) (fun _ => ?_)) | (with_reducible refine aSel_split (fun _ => ?_) (fun _ => ?_)) | (with_reducible refine aGd_split (fun _ => ?_) (fun _ => ?_))))
      refine aDraw_held [] [0, 1, 2, 3, 4, 5, 6, 7, 8] .done (by kernel_rfl) (by simp []) ?_
      (repeat' (first | simp (maxSteps := 5000000) (implicitDefEqProofs := false) only [ruA, ruB, aEv, aTake, aLoad, aIndex, aBin, bin2, ASt.get, aget, ASt.put, aResL, aOne, ↓reduceIte, reduceCtorEq, Nat.reduceLT, Nat.reduceEqDiff, eq_self, aTakes, aFrom, tyE_23, tyA_2, tyS_2, row_at, hk2, hk3] | (with_reducible refine aIf_split (fun _ => ?_) (fun _ => ?_)) | (with_reducible refine aSel_split (fun _ => ?_) (fun _ => ?_)) | (with_reducible refine aGd_split (fun _ => ?_) (fun _ => ?_))))
      · rename_i h
        symm
        simp only [decide_eq_false_iff_not]
        intro he
        subst he
        simp at h
      · rename_i h
        refine roundI (weak_cut1 (by (first | ((simp only [envIn, tabIn, envLt, tabLt, AV.lt, ruW, ASt.get, aget, ↓reduceIte, reduceCtorEq, Nat.reduceLT, Nat.reduceEqDiff, eq_self]) <;> (repeat' apply And.intro) <;> first | (rw [wrapK (by omega)]; done) | (simp; done) | omega) | fail))) ⟨k + 1, by omega, ?_, rfl⟩ (by simp only [slotN, ruW, ASt.get, aget, ↓reduceIte, Nat.reduceLT, Nat.reduceEqDiff, eq_self]; omega)
        rw [List.take_add_one, List.take_add_one, hI, List.getElem?_eq_getElem hk2, List.getElem?_eq_getElem hk3]
        simp at h
        rw [h]
    · obtain rfl : k = a.length := by omega
      (repeat' (first | simp (maxSteps := 5000000) (implicitDefEqProofs := false) only [ruA, ruB, aEv, aBin, bin2, ASt.get, aget, ASt.put, aResL, aOne, ↓reduceIte, Nat.reduceLT, Nat.reduceEqDiff, eq_self, hk2] | (with_reducible refine aIf_split (fun _ => ?_) (fun _ => ?_)) | (with_reducible refine aSel_split (fun _ => ?_) (fun _ => ?_)) | (with_reducible refine aGd_split (fun _ => ?_) (fun _ => ?_))))
      symm
      simp only [decide_eq_true_eq]
      exact eq_of_take hl hI (Nat.le_refl _)
  · have hl' : (((a.length : Nat) : Int) != ((b.length : Nat) : Int)) = true := by simp; omega
    (repeat' (first | simp (maxSteps := 5000000) (implicitDefEqProofs := false) only [ruA, ruB, aEv, aLen, aBin, bin2, ASt.get, aget, ASt.put, envOf, aResL, aOne, ↓reduceIte, reduceCtorEq, Nat.reduceLT, Nat.reduceEqDiff, eq_self, ne_eq, tyE_23, hl'] | (with_reducible refine aIf_split (fun _ => ?_) (fun _ => ?_)) | (with_reducible refine aSel_split (fun _ => ?_) (fun _ => ?_)) | (with_reducible refine aGd_split (fun _ => ?_) (fun _ => ?_))))
    symm
    simp only [decide_eq_false_iff_not]
    intro he
    exact hl (by rw [he])
set_option maxRecDepth 100000 in
theorem equalI_A (a b : List Int) (ha : a.length ≤ 1000000) : ADet Tryz.prog 26 [sI a, sI b] (val (.bool (decide (a = b)))) := by
  refine adet_of_code mixedT Tryz.func26 rfl (by decide) Tryz.ntmps26 Tryz.results26 rfl (val_ok _) ?_
  by_cases hl : a.length = b.length
  · have hl' : (((a.length : Nat) : Int) != ((b.length : Nat) : Int)) = false := by simp [hl]
    (repeat' (first | simp (maxSteps := 5000000) (implicitDefEqProofs := false) only [ruA, ruB, aEv, aLen, aBin, bin2, ASt.get, aget, ASt.put, envOf, ↓reduceIte, reduceCtorEq, Nat.reduceLT, Nat.reduceEqDiff, eq_self, ne_eq, tyE_45, hl'] | (with_reducible refine aIf_split (fun _ => ?_) (fun _ => ?_)) | (with_reducible refine aSel_split (fun _ => ?_) (fun _ => ?_)) | (with_reducible refine aGd_split (fun _ => ?_) (fun _ => ?_))))
    refine aLoop_of (fun st => ∃ k : Nat, k ≤ a.length ∧ a.take k = b.take k ∧ st = ⟨26, [(0, sI a), (1, sI b), (12, eI (a.length : Int)), (13, eI (k : Int))], [], 0⟩) (fun st => a.length - slotN st 13) ⟨_, (weak_cut1 (by (first | ((simp only [envIn, tabIn, envLt, tabLt, AV.lt, ruW, ASt.get, aget, ↓reduceIte, reduceCtorEq, Nat.reduceLT, Nat.reduceEqDiff, eq_self]) <;> (repeat' apply And.intro) <;> first | (rw [wrapK (by omega)]; done) | (simp; done) | omega) | fail))), 0, Nat.zero_le _, rfl, rfl⟩ ?_
    rintro _ ⟨k, hk, hI, rfl⟩
    by_cases hk2 : k < a.length
    · have hk3 : k < b.length := by omega
      (repeat' (first | simp (maxSteps := 5000000) (implicitDefEqProofs := false) only [ruA, ruB, aEv, aBin, bin2, ASt.get, aget, ASt.put, ↓reduceIte, Nat.reduceLT, Nat.reduceEqDiff, eq_self, hk2] | (with_reducible refine aIf_split (fun _ => ?_) (fun _ => ?_)) | (with_reducible refine aSel_split (fun _ => ?_) (fun _ => ?_)) | (with_reducible refine aGd_split (fun _ => ?_) (fun _ => ?_))))
      refine aDraw_held [] [0, 1, 2, 3, 4, 5, 6, 7, 8] .done (by kernel_rfl) (by simp []) ?_
      (repeat' (first | simp (maxSteps := 5000000) (implicitDefEqProofs := false) only [ruA, ruB, aEv, aTake, aLoad, aIndex, aBin, bin2, ASt.get, aget, ASt.put, aResL, aOne, ↓reduceIte, reduceCtorEq, Nat.reduceLT, Nat.reduceEqDiff, eq_self, aTakes, aFrom, tyE_45, tyA_3, tyS_3, row_at, hk2, hk3] | (with_reducible refine aIf_split (fun _ => ?_) (fun _ => ?_)) | (with_reducible refine aSel_split (fun _ => ?_) (fun _ => ?_)) | (with_reducible refine aGd_split (fun _ => ?_) (fun _ => ?_))))
      · rename_i h
        symm
        simp only [decide_eq_false_iff_not]
        intro he
        subst he
        simp at h
      · rename_i h
        refine roundI (weak_cut1 (by (first | ((simp only [envIn, tabIn, envLt, tabLt, AV.lt, ruW, ASt.get, aget, ↓reduceIte, reduceCtorEq, Nat.reduceLT, Nat.reduceEqDiff, eq_self]) <;> (repeat' apply And.intro) <;> first | (rw [wrapK (by omega)]; done) | (simp; done) | omega) | fail))) ⟨k + 1, by omega, ?_, rfl⟩ (by simp only [slotN, ruW, ASt.get, aget, ↓reduceIte, Nat.reduceLT, Nat.reduceEqDiff, eq_self]; omega)
        rw [List.take_add_one, List.take_add_one, hI, List.getElem?_eq_getElem hk2, List.getElem?_eq_getElem hk3]
        simp at h
        rw [h]
    · obtain rfl : k = a.length := by omega
      (repeat' (first | simp (maxSteps := 5000000) (implicitDefEqProofs := false) only [ruA, ruB, aEv, aBin, bin2, ASt.get, aget, ASt.put, aResL, aOne, ↓reduceIte, Nat.reduceLT, Nat.reduceEqDiff, eq_self, hk2] | (with_reducible refine aIf_split (fun _ => ?_) (fun _ => ?_)) | (with_reducible refine aSel_split (fun _ => ?_) (fun _ => ?_)) | (with_reducible refine aGd_split (fun _ => ?_) (fun _ => ?_))))
      symm
      simp only [decide_eq_true_eq]
      exact eq_of_take hl hI (Nat.le_refl _)
  · have hl' : (((a.length : Nat) : Int) != ((b.length : Nat) : Int)) = true := by simp; omega
    (repeat' (first | simp (maxSteps := 5000000) (implicitDefEqProofs := false) only [ruA, ruB, aEv, aLen, aBin, bin2, ASt.get, aget, ASt.put, envOf, aResL, aOne, ↓reduceIte, reduceCtorEq, Nat.reduceLT, Nat.reduceEqDiff, eq_self, ne_eq, tyE_45, hl'] | (with_reducible refine aIf_split (fun _ => ?_) (fun _ => ?_)) | (with_reducible refine aSel_split (fun _ => ?_) (fun _ => ?_)) | (with_reducible refine aGd_split (fun _ => ?_) (fun _ => ?_))))
    symm
    simp only [decide_eq_false_iff_not]
    intro he
    exact hl (by rw [he])
set_option maxRecDepth 100000 in
theorem sameP_A (a b : St) (h1 : a.vals.length ≤ 1000000) (h2 : a.did.length ≤ 1000000) (h3 : a.cnt.length ≤ 1000000) : ADet Tryz.prog 16 [.agg (eSt a), .agg (eSt b)] (val (.bool (sameB a b))) := by
  refine adet_of_code mixedT Tryz.func16 rfl (by decide) Tryz.ntmps16 Tryz.results16 rfl (val_ok _) ?_
  unfold sameB
  (repeat' (first | simp (maxSteps := 5000000) (implicitDefEqProofs := false) only [ruA, ruB, aEv, aTake, aLoad, aField, aBin, bin2, ASt.get, aget, ASt.put, aBox, aCells, oneC, oneCL, Value.oneCell', envOf, aResL, aOne, ↓reduceIte, reduceCtorEq, Nat.reduceLT, Nat.reduceEqDiff, Nat.reduceAdd, Nat.reduceLeDiff, eq_self, tyF_47_1, tyA_3, tyS_3, tyF_47_2, tyF_47_0, tyA_23, tyS_23, tyF_47_3, tyA_45, tyS_45, tyF_47_4] | (with_reducible refine aIf_split (fun _ => ?_) (fun _ => ?_)) | (with_reducible refine aSel_split (fun _ => ?_) (fun _ => ?_)) | (with_reducible refine aGd_split (fun _ => ?_) (fun _ => ?_)) | (with_reducible refine aDraw_quiet (by kernel_rfl) ?_) | ((with_reducible apply callV (g := 25)); exact (equal64_A _ _ h1)) | ((with_reducible apply callD (g := 25)); exact (equal64_A _ _ h1)) | ((with_reducible apply callV (g := 26)); exact (equalI_A _ _ h2)) | ((with_reducible apply callD (g := 26)); exact (equalI_A _ _ h2)) | ((with_reducible apply callV (g := 26)); exact (equalI_A _ _ h3)) | ((with_reducible apply callD (g := 26)); exact (equalI_A _ _ h3))))
  all_goals grind
/-- why one may not go round for ever -/
noncomputable def loopsM (m : Mod) (l : List Mv) (at_ : Int) : Int :=
  if runK m l = l.length then (if 0 ≤ at_ ∧ at_ < (l.length : Int) ∧ sameB (stN m l at_.toNat) (stN m l l.length) = true then 0 else 18) else runErr m l
theorem runErr_ne (m : Mod) (l : List Mv) (hG : ¬ runK m l = l.length) : (runErr m l != 0) = true := by
  have hG2 : runK m l < l.length := by have := goodN_le (okN m l) l.length; unfold runK at hG ⊢; omega
  have := goodN_stop (okN m l) l.length hG2
  unfold runErr
  rw [if_neg hG]
  have h2 : (errN m l (runK m l) == 0) = false := this
  simpa [bne] using h2
set_option maxRecDepth 100000 in
set_option maxHeartbeats 8000000 in
theorem loops_A (m : Mod) (l : List Mv) (at_ : Int) (hm : GoodM m) (hl : GoodMs l) : ADet Tryz.prog 9 [.agg (eMod m), sMvs l, eI at_] (val (.int .i64 (loopsM m l at_))) := by
  refine adet_of_code mixedT Tryz.func9 rfl (by decide) Tryz.ntmps9 Tryz.results9 rfl (val_ok _) ?_
  have h1 := runSt_len m l
  unfold loopsM
  by_cases hG : runK m l = l.length
  · have hE : runErr m l = 0 := by unfold runErr; rw [if_pos hG]
    have hz : ((0 : Int) != 0) = false := by decide
    have hll : l.length < (runSt m l).length := by omega
    have hal := runSt_at m l hll
    rw [if_pos hG]
    by_cases ha : 0 ≤ at_ ∧ at_ < (l.length : Int)
    · obtain ⟨q, rfl⟩ : ∃ q : Nat, at_ = (q : Int) := ⟨at_.toNat, by omega⟩
      have hq : q < (runSt m l).length := by omega
      have haq := runSt_at m l hq
      have hq0 : decide ((q : Int) < 0) = false := by simp only [decide_eq_false_iff_not]; omega
      have hq1 : decide (((l.length : Nat) : Int) ≤ (q : Int)) = false := by simp only [decide_eq_false_iff_not]; omega
      have hgq := good_stN m l hm.fit hm.inits hl q
      have g1 := hgq.vals
      have g2 := hgq.did
      have g3 := hgq.cnt
      (repeat' (first | simp (maxSteps := 5000000) (implicitDefEqProofs := false) only [ruA, ruB, aEv, aTake, aLoad, aIndex, aLen, aBin, bin2, aUn, un1, aExtract, ASt.get, aget, ASt.put, aBox, aCells, oneC, oneCL, envOf, aResL, aOne, ↓reduceIte, Nat.reduceLT, Nat.reduceEqDiff, Nat.reduceAdd, eq_self, ne_eq, dref, dref1, AV.shift, AV.shiftL, tyA_32, tyS_32, tyE_33, tyE_41, tyA_47, tyS_47, hE, hz, hq0, row_at, hq, haq, hll, hal] | (with_reducible refine aIf_split (fun _ => ?_) (fun _ => ?_)) | (with_reducible refine aSel_split (fun _ => ?_) (fun _ => ?_)) | (with_reducible refine aGd_split (fun _ => ?_) (fun _ => ?_)) | (with_reducible refine aDraw_quiet (by kernel_rfl) ?_) | ((with_reducible apply callT (g := 11)); exact (all_A m l hm hl); exact (.inl (by simp [roL, roA, treeL, treeC]))) | ((with_reducible apply callV (g := 16)); exact (sameP_A (stN m l q) (stN m l l.length) (by omega) (by omega) (by omega))) | ((with_reducible apply callD (g := 16)); exact (sameP_A (stN m l q) (stN m l l.length) (by omega) (by omega) (by omega)))))
      all_goals rename_i hx
      all_goals grind
    · rw [if_neg (fun h => ha ⟨h.1, h.2.1⟩)]
      by_cases h0 : at_ < 0
      · have hq0 : decide (at_ < 0) = true := by simpa using h0
        (repeat' (first | simp (maxSteps := 5000000) (implicitDefEqProofs := false) only [ruA, ruB, aEv, aTake, aLoad, aBin, bin2, aExtract, ASt.get, aget, ASt.put, aBox, aCells, oneC, oneCL, envOf, aResL, aOne, ↓reduceIte, Nat.reduceLT, Nat.reduceEqDiff, Nat.reduceAdd, eq_self, AV.shift, AV.shiftL, tyA_32, tyS_32, hE, hz, hq0] | (with_reducible refine aIf_split (fun _ => ?_) (fun _ => ?_)) | (with_reducible refine aSel_split (fun _ => ?_) (fun _ => ?_)) | (with_reducible refine aGd_split (fun _ => ?_) (fun _ => ?_)) | (with_reducible refine aDraw_quiet (by kernel_rfl) ?_) | ((with_reducible apply callT (g := 11)); exact (all_A m l hm hl); exact (.inl (by simp [roL, roA, treeL, treeC])))))
      · have hq0 : decide (at_ < 0) = false := by simpa using h0
        have hq1 : decide (((l.length : Nat) : Int) ≤ at_) = true := by simp; omega
        (repeat' (first | simp (maxSteps := 5000000) (implicitDefEqProofs := false) only [ruA, ruB, aEv, aTake, aLoad, aLen, aBin, bin2, aExtract, ASt.get, aget, ASt.put, aBox, aCells, oneC, oneCL, envOf, aResL, aOne, ↓reduceIte, Nat.reduceLT, Nat.reduceEqDiff, Nat.reduceAdd, eq_self, ne_eq, AV.shift, AV.shiftL, tyA_32, tyS_32, tyE_33, hE, hz, hq0, hq1] | (with_reducible refine aIf_split (fun _ => ?_) (fun _ => ?_)) | (with_reducible refine aSel_split (fun _ => ?_) (fun _ => ?_)) | (with_reducible refine aGd_split (fun _ => ?_) (fun _ => ?_)) | (with_reducible refine aDraw_quiet (by kernel_rfl) ?_) | ((with_reducible apply callT (g := 11)); exact (all_A m l hm hl); exact (.inl (by simp [roL, roA, treeL, treeC])))))
  · rw [if_neg hG]
    (repeat' (first | simp (maxSteps := 5000000) (implicitDefEqProofs := false) only [ruA, ruB, aEv, aTake, aLoad, aBin, bin2, aExtract, ASt.get, aget, ASt.put, aBox, aCells, oneC, oneCL, envOf, aResL, aOne, ↓reduceIte, Nat.reduceLT, Nat.reduceEqDiff, Nat.reduceAdd, eq_self, AV.shift, AV.shiftL, tyA_32, tyS_32, runErr_ne m l hG] | (with_reducible refine aIf_split (fun _ => ?_) (fun _ => ?_)) | (with_reducible refine aSel_split (fun _ => ?_) (fun _ => ?_)) | (with_reducible refine aGd_split (fun _ => ?_) (fun _ => ?_)) | (with_reducible refine aDraw_quiet (by kernel_rfl) ?_) | ((with_reducible apply callT (g := 11)); exact (all_A m l hm hl); exact (.inl (by simp [roL, roA, treeL, treeC])))))
set_option maxRecDepth 100000 in
set_option maxHeartbeats 8000000 in
theorem loopsR_A (m : Mod) (l : List Mv) (at_ : Int) (hm : GoodM m) (hl : GoodMs l) : ADet Tryz.prog 10 [.agg (eMod m), sMvs l, eI at_] (val (.int .i64 (loopsM m l at_))) := by
  refine adet_of_code mixedT Tryz.func10 rfl (by decide) Tryz.ntmps10 Tryz.results10 rfl (val_ok _) ?_
  have h1 := runSt_len m l
  unfold loopsM
  by_cases hG : runK m l = l.length
  · have hE : runErr m l = 0 := by unfold runErr; rw [if_pos hG]
    have hz : ((0 : Int) != 0) = false := by decide
    have hll : l.length < (runSt m l).length := by omega
    have hal := runSt_at m l hll
    rw [if_pos hG]
    by_cases ha : 0 ≤ at_ ∧ at_ < (l.length : Int)
    · obtain ⟨q, rfl⟩ : ∃ q : Nat, at_ = (q : Int) := ⟨at_.toNat, by omega⟩
      have hq : q < (runSt m l).length := by omega
      have haq := runSt_at m l hq
      have hq0 : decide ((q : Int) < 0) = false := by simp only [decide_eq_false_iff_not]; omega
      have hq1 : decide (((l.length : Nat) : Int) ≤ (q : Int)) = false := by simp only [decide_eq_false_iff_not]; omega
      have hgq := good_stN m l hm.fit hm.inits hl q
      have g1 := hgq.vals
      have g2 := hgq.did
      have g3 := hgq.cnt
      (repeat' (first | simp (maxSteps := 5000000) (implicitDefEqProofs := false) only [ruA, ruB, aEv, aTake, aLoad, aIndex, aLen, aBin, bin2, aUn, un1, aExtract, ASt.get, aget, ASt.put, aBox, aCells, oneC, oneCL, envOf, aResL, aOne, ↓reduceIte, Nat.reduceLT, Nat.reduceEqDiff, Nat.reduceAdd, eq_self, ne_eq, dref, dref1, AV.shift, AV.shiftL, tyA_32, tyS_32, tyE_33, tyE_41, tyA_47, tyS_47, hE, hz, hq0, row_at, hq, haq, hll, hal] | (with_reducible refine aIf_split (fun _ => ?_) (fun _ => ?_)) | (with_reducible refine aSel_split (fun _ => ?_) (fun _ => ?_)) | (with_reducible refine aGd_split (fun _ => ?_) (fun _ => ?_)) | (with_reducible refine aDraw_quiet (by kernel_rfl) ?_) | ((with_reducible apply callT (g := 14)); exact (allR_A m l hm hl); exact (.inl (by simp [roL, roA, treeL, treeC]))) | ((with_reducible apply callV (g := 12)); exact (sameS_A (stN m l q) (stN m l l.length) (by omega) (by omega) (by omega))) | ((with_reducible apply callD (g := 12)); exact (sameS_A (stN m l q) (stN m l l.length) (by omega) (by omega) (by omega)))))
      all_goals rename_i hx
      all_goals grind
    · rw [if_neg (fun h => ha ⟨h.1, h.2.1⟩)]
      by_cases h0 : at_ < 0
      · have hq0 : decide (at_ < 0) = true := by simpa using h0
        (repeat' (first | simp (maxSteps := 5000000) (implicitDefEqProofs := false) only [ruA, ruB, aEv, aTake, aLoad, aBin, bin2, aExtract, ASt.get, aget, ASt.put, aBox, aCells, oneC, oneCL, envOf, aResL, aOne, ↓reduceIte, Nat.reduceLT, Nat.reduceEqDiff, Nat.reduceAdd, eq_self, AV.shift, AV.shiftL, tyA_32, tyS_32, hE, hz, hq0] | (with_reducible refine aIf_split (fun _ => ?_) (fun _ => ?_)) | (with_reducible refine aSel_split (fun _ => ?_) (fun _ => ?_)) | (with_reducible refine aGd_split (fun _ => ?_) (fun _ => ?_)) | (with_reducible refine aDraw_quiet (by kernel_rfl) ?_) | ((with_reducible apply callT (g := 14)); exact (allR_A m l hm hl); exact (.inl (by simp [roL, roA, treeL, treeC])))))
      · have hq0 : decide (at_ < 0) = false := by simpa using h0
        have hq1 : decide (((l.length : Nat) : Int) ≤ at_) = true := by simp; omega
        (repeat' (first | simp (maxSteps := 5000000) (implicitDefEqProofs := false) only [ruA, ruB, aEv, aTake, aLoad, aLen, aBin, bin2, aExtract, ASt.get, aget, ASt.put, aBox, aCells, oneC, oneCL, envOf, aResL, aOne, ↓reduceIte, Nat.reduceLT, Nat.reduceEqDiff, Nat.reduceAdd, eq_self, ne_eq, AV.shift, AV.shiftL, tyA_32, tyS_32, tyE_33, hE, hz, hq0, hq1] | (with_reducible refine aIf_split (fun _ => ?_) (fun _ => ?_)) | (with_reducible refine aSel_split (fun _ => ?_) (fun _ => ?_)) | (with_reducible refine aGd_split (fun _ => ?_) (fun _ => ?_)) | (with_reducible refine aDraw_quiet (by kernel_rfl) ?_) | ((with_reducible apply callT (g := 14)); exact (allR_A m l hm hl); exact (.inl (by simp [roL, roA, treeL, treeC])))))
  · rw [if_neg hG]
    (repeat' (first | simp (maxSteps := 5000000) (implicitDefEqProofs := false) only [ruA, ruB, aEv, aTake, aLoad, aBin, bin2, aExtract, ASt.get, aget, ASt.put, aBox, aCells, oneC, oneCL, envOf, aResL, aOne, ↓reduceIte, Nat.reduceLT, Nat.reduceEqDiff, Nat.reduceAdd, eq_self, AV.shift, AV.shiftL, tyA_32, tyS_32, runErr_ne m l hG] | (with_reducible refine aIf_split (fun _ => ?_) (fun _ => ?_)) | (with_reducible refine aSel_split (fun _ => ?_) (fun _ => ?_)) | (with_reducible refine aGd_split (fun _ => ?_) (fun _ => ?_)) | (with_reducible refine aDraw_quiet (by kernel_rfl) ?_) | ((with_reducible apply callT (g := 14)); exact (allR_A m l hm hl); exact (.inl (by simp [roL, roA, treeL, treeC])))))
set_option maxRecDepth 100000 in
theorem great20_A (l : List Mv) : ARel Tryz.prog 7 [sMvs l] fun R => ∃ b, R = val (.bool b) ∧ (b = false → l.length ≤ 41 ∧ ∀ v ∈ l, v.vals.length ≤ 50) := by
  refine arel_of_code mixedT Tryz.func7 rfl (by decide) Tryz.ntmps7 Tryz.results7 rfl ?_
  (repeat' (first | simp (maxSteps := 5000000) (implicitDefEqProofs := false) only [ruA, aEv, ASt.put, envOf] | (with_reducible refine aIf_split (fun _ => ?_) (fun _ => ?_)) | (with_reducible refine aSel_split (fun _ => ?_) (fun _ => ?_)) | (with_reducible refine aGd_split (fun _ => ?_) (fun _ => ?_))))
  refine aLoop_of (fun st => ∃ k : Nat, k ≤ l.length ∧ k ≤ 41 ∧ (∀ i (h : i < l.length), i < k → l[i].vals.length ≤ 50) ∧ st = ⟨21, [(0, sMvs l), (3, eI (k : Int))], [], 0⟩) (fun st => l.length - slotN st 3) ⟨_, (weak_cut1 (by (first | ((simp only [envIn, tabIn, envLt, tabLt, AV.lt, ruW, ASt.get, aget, ↓reduceIte, reduceCtorEq, Nat.reduceLT, eq_self]) <;> (repeat' apply And.intro) <;> first | (rw [wrapK (by omega)]; done) | (simp; done) | omega) | fail))), 0, Nat.zero_le _, Nat.zero_le _, by simp, rfl⟩ ?_
  rintro _ ⟨k, hk, hk41, hI, rfl⟩
  by_cases hk2 : k < l.length
  · (repeat' (first | simp (maxSteps := 5000000) (implicitDefEqProofs := false) only [ruA, ruB, aEv, aTake, aLoad, aField, aIndex, aLen, aBin, bin2, ASt.get, aget, ASt.put, aResL, aOne, ↓reduceIte, reduceCtorEq, Nat.reduceLT, Nat.reduceEqDiff, eq_self, ne_eq, tyE_33, tyF_51_2, tyA_23, tyS_23, tyE_23, row_at, hk2] | (with_reducible refine aIf_split (fun _ => ?_) (fun _ => ?_)) | (with_reducible refine aSel_split (fun _ => ?_) (fun _ => ?_)) | (with_reducible refine aGd_split (fun _ => ?_) (fun _ => ?_)) | (with_reducible refine aDraw_quiet (by kernel_rfl) ?_)))
    · exact retV ⟨true, rfl, by simp⟩
    · exact retV ⟨true, rfl, by simp⟩
    · rename_i h1 h2
      simp at h1 h2
      refine roundI (weak_cut1 (by (first | ((simp only [envIn, tabIn, envLt, tabLt, AV.lt, ruW, ASt.get, aget, ↓reduceIte, reduceCtorEq, Nat.reduceLT, eq_self]) <;> (repeat' apply And.intro) <;> first | (rw [wrapK (by omega)]; done) | (simp; done) | omega) | fail))) ⟨k + 1, by omega, by omega, ?_, rfl⟩ (by simp only [slotN, ruW, ASt.get, aget, ↓reduceIte, Nat.reduceLT, eq_self]; omega)
      intro i hi hik
      rcases Nat.lt_or_ge i k with h | h
      · exact hI i hi h
      · obtain rfl : i = k := by omega
        omega
  · obtain rfl : k = l.length := by omega
    (repeat' (first | simp (maxSteps := 5000000) (implicitDefEqProofs := false) only [ruA, ruB, aEv, aLen, aBin, bin2, ASt.get, aget, ASt.put, aResL, aOne, ↓reduceIte, reduceCtorEq, Nat.reduceLT, Nat.reduceEqDiff, eq_self, ne_eq, tyE_33, hk2] | (with_reducible refine aIf_split (fun _ => ?_) (fun _ => ?_)) | (with_reducible refine aSel_split (fun _ => ?_) (fun _ => ?_)) | (with_reducible refine aGd_split (fun _ => ?_) (fun _ => ?_)) | (with_reducible refine aDraw_quiet (by kernel_rfl) ?_)))
    refine retV ⟨false, rfl, fun _ => ⟨hk41, fun v hv => ?_⟩⟩
    obtain ⟨i, hi, rfl⟩ := List.getElem_of_mem hv
    exact hI i hi hi
end
end Go.Proofs.YtfocnmkbnccilaaGreat
