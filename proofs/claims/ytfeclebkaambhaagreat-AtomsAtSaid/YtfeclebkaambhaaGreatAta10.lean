/-
  Parts of the proof: ZSortE, Z1, Z2, Z3.
-/
import Derived.Test.YtfeclebkaambhaaGreatAta9
set_option linter.unusedVariables false
set_option linter.unusedSimpArgs false
namespace Go.Proofs.YtfeclebkaambhaaGreat
section
open Go.RowKit Go.Sort

theorem numSorted1_any (l : List Int) (v : Value) (w : World) (hl : l.length ≤ 1000000) (hp : 0 < l.length) (h : LI w v l) :
    Calls Tryz.prog 77 #[v] w fun e w' => ∃ v', e = .returned v' ∧ LN w.heap.size w' v' (sortL l) ∧ Below w.heap.size w w' := by
  obtain ⟨i0, hi0, hz0, hz1, hz2⟩ := info_parts i64Info
  obtain ⟨b, o, c, rfl, hc, hb, hcell⟩ := h.some_ hp
  have h1 := Tryz.slices_Clone i0 (.int .i64 0) 1 8 hi0 hz0 hz1 hz2 rfl (by decide) Tryz.sizeOf2 b o l.length c (l.map (Value.int .i64)) w (by simp) (by unfold maxLen; omega) (by omega)
    (fun j u hj => by
      rw [List.getElem?_map] at hj
      rcases Nat.lt_or_ge j l.length with hlt | hge
      · rw [List.getElem?_eq_getElem hlt] at hj
        obtain rfl : Value.int .i64 l[j] = u := by simpa using hj
        exact hcell j hlt
      · rw [List.getElem?_eq_none hge] at hj; simp at hj)
    (fun u hu => by obtain ⟨x, _, rfl⟩ := List.mem_map.1 hu; rfl)
  have H1 := hide h1
  clear h1
  unfold sortL
  have hSl : (l.mergeSort fun x y => decide (x ≤ y)).length = l.length := List.length_mergeSort ..
  generalize hSd : (l.mergeSort fun x y => decide (x ≤ y)) = S at *
  have HSd := hide hSd
  have HSl := hide hSl
  clear hSd hSl
  go_enter Tryz.func77, Tryz.ntmps77
  go_wp2_with fail
  refine H1.out.mono ?_
  rintro e w1 ⟨v', rfl, hown, hnn, hb1⟩
  obtain ⟨_, ⟨_, hn0⟩ | ⟨g, cap, cur, rfl, hbase, hblk, hn, hcap, hcs, htake⟩⟩ := hown
  · omega
  rw [Nat.mul_one] at htake
  have hg : g < w1.heap.size := (Array.getElem?_eq_some_iff.1 hblk).1
  have hH := holds_of_blockI hblk htake
  have h2 := Tryz.slices_Sort_int g 0 cap l w1 hH hg (by omega)
  rw [HSd.out] at h2
  have H2 := hide h2
  clear h2 H1 hH
  go_wp2_with fail
  refine H2.out.mono ?_
  rintro e w2 ⟨rfl, n, os, rfl⟩
  have hSl := HSl.out
  have hown2 := ownsRow_sortedI (n := n) (os := os) (ts := S) hSl hbase hblk hn hcap hcs
  have hgr2 := grownBy_sortedI (w := w1) (g := g) (n := n) (os := os) S.toArray
  generalize Go.Sort.grow (putRow (Value.int .i64) (Sort.ahead w1 n) g 0 S.toArray) os = w2 at *
  have hb2 : Below w.heap.size w w2 := hb1.grown hgr2 hb1.size (fun j hj => by cases hj; exact hbase)
  obtain ⟨_, ⟨hx, _⟩ | ⟨g', cap', cur2, hv, _, hblk2, _, _, hcs2, htake2⟩⟩ := hown2
  · cases hx
  cases hv
  rw [Nat.mul_one, ← hSl] at htake2
  have hg2 : g < w2.heap.size := (Array.getElem?_eq_some_iff.1 hblk2).1
  have hH2 := holds_of_blockI hblk2 htake2
  have h3 := Tryz.slices_Compact_int g 0 cap S w2 hH2 (by omega) (by omega)
  rw [hSl] at h3
  have H3 := hide h3
  have hcl := compact_len S
  clear h3 H2 hH2
  go_wp2_with fail
  refine H3.out.mono ?_
  rintro e w3 ⟨rfl, q, hw3⟩
  have hown3 := ownsRow_sortedI (n := q) (os := #[]) (ss := S) (ts := Lib.compact S ++ List.replicate (S.length - (Lib.compact S).length) 0) (by simp; omega) hbase hblk2 (by omega) hcap hcs2
  have hgr3 := grownBy_sortedI (w := w2) (g := g) (n := q) (os := #[]) (Lib.compact S ++ List.replicate (S.length - (Lib.compact S).length) 0).toArray
  rw [grow_empty] at hown3 hgr3
  rw [hSl] at hown3 hgr3
  rw [← hw3] at hown3 hgr3
  have hb3 : Below w.heap.size w w3 := hb2.grown hgr3 hb2.size (fun j hj => by cases hj; exact hbase)
  have hLI : LN w.heap.size w3 (.slice (some ⟨g, 0, none⟩) (Lib.compact S).length cap) (Lib.compact S) := by
    refine ⟨_, _, rfl, by omega, by unfold maxLen at hcap; omega, fun _ => ⟨g, 0, rfl, hbase, ?_, fun i hi => ?_⟩⟩
    · have := hgr3.size; omega
    · rw [Nat.zero_add]
      exact own_cell hown3 rfl (by rw [List.getElem?_map, List.getElem?_append_left hi, List.getElem?_eq_getElem hi]; rfl)
  clear hw3 H3 hown3 hgr3 hblk hblk2 htake htake2
  go_wp2_with fail
  go_ret
  exact ⟨_, rfl, hLI, hb3⟩
theorem numSorted_any (l : List Int) (v : Value) (w : World) (hl : l.length ≤ 1000000) (h : LI w v l) :
    Calls Tryz.prog 77 #[v] w fun e w' => ∃ v', e = .returned v' ∧ LN w.heap.size w' v' (sortL l) ∧ Below w.heap.size w w' := by
  cases l with
  | nil => exact numSorted0_any v w h
  | cons x l => exact numSorted1_any (x :: l) v w hl (by simp) h
end
section
open Go.RowKit
theorem one_arg {vs : Array Value} {a : AV} (hn : vs.size = [a].length) : ∃ x, vs = #[x] := ⟨vs[0]'(by simp at hn; omega), by
  apply Array.ext (by simpa using hn)
  intro i h1 h2
  simp at h2
  subst h2
  rfl⟩
theorem numSorted_A (l : List Int) (hl : l.length ≤ 1000000) : ADet Tryz.prog 77 [sI l] ⟨sI (sortR l), [], 0⟩ :=
  adet_of_sl (enters_of Tryz.func77 rfl (by decide)) fun S w vs hS hn hv => by
    obtain ⟨a, rfl⟩ := one_arg hn
    refine (numSorted_any l a w hl (LI.of_rt (hv 0 a _ rfl rfl) hS)).mono fun e w' ⟨v', h1, h2, h3⟩ => ?_
    rw [sortL_eq] at h2
    exact ⟨v', h1, fun S' hS' => h2.rt hS', h3⟩
theorem refSorted_A (l : List Int) (hl : l.length ≤ 1000) : ADet Tryz.prog 40 [sI l] ⟨sI (sortR l), [], 0⟩ :=
  adet_of_sl (enters_of Tryz.func40 rfl (by decide)) fun S w vs hS hn hv => by
    obtain ⟨a, rfl⟩ := one_arg hn
    refine (refSorted_any l a w hl (LI.of_rt (hv 0 a _ rfl rfl) hS)).mono fun e w' ⟨v', h1, h2, h3⟩ => ?_
    exact ⟨v', h1, fun S' hS' => h2.rt hS', h3⟩
/-- how many of a list are below a number -/
def lessN (c : List Int) (n : Int) : Nat := c.countP (fun x => decide (x < n))
theorem numFind_A (c : List Int) (n : Int) (hc : Up c) (hl : c.length ≤ 1000000) : ADet Tryz.prog 76 [sI c, eI n] ⟨.tup [eI (lessN c n : Int), eB (decide (n ∈ c))], [], 0⟩ :=
  ⟨enters_of Tryz.func76 rfl (by decide), fun S w vs hS hn hv => by
    obtain ⟨a, b, rfl⟩ := two_args hn
    obtain rfl := rtc (hv 1 b _ rfl rfl)
    refine (find_any c n a w hl (LI.of_rt (hv 0 a _ rfl rfl) hS)).mono fun e w' ⟨⟨r, h1, hF⟩, h2⟩ => ?_
    obtain ⟨e1, e2⟩ := search_up c n hc r hF.le (fun h0 => hF.lo h0 (by have := hF.le; omega)) hF.hi
    rw [e2, ← e1] at h1
    refine ⟨_, fun _ => undef, _, rfl, ⟨fun id o h => (by cases h), ⟨trivial, trivial, trivial⟩⟩, h1, ⟨belowX h2, fun id o h => (by cases h), fun id id' o o' g h => (by cases h), fun b hb => hb.elim⟩, .tree (.tup _ _ rfl fun j x av h3 h4 => ?_)⟩
    match j with
    | 0 => simp at h3 h4; subst h3; subst h4; exact .c _
    | 1 => simp at h3 h4; subst h3; subst h4; exact .c _
    | j + 2 => simp at h3⟩
/-! ### zones -/
structure Cls where
  attrs : Int
  const : Int
structure Zn where
  cls : List Cls
  gaps : List Int
abbrev eCls (x : Cls) : List AV := [eI x.attrs, eI x.const]
abbrev eZn (z : Zn) : List AV := [.sl 2 (z.cls.map eCls), sI z.gaps]
/-- the first place of what is so; -1: there is none -/
def fstI {α : Type} (p : α → Bool) (l : List α) : Int := match l.findIdx? p with | some k => (k : Int) | none => -1
theorem fstI_at {α : Type} {p : α → Bool} {l : List α} {k : Nat} (hk : k < l.length) (h : p l[k] = true) (hn : ∀ i (h : i < k), p (l[i]'(by omega)) = false) : fstI p l = (k : Int) := by
  have : l.findIdx? p = some k := List.findIdx?_eq_some_iff_getElem.2 ⟨hk, h, fun j hj => by simp [hn j hj]⟩
  unfold fstI
  rw [this]
theorem fstI_none {α : Type} {p : α → Bool} {l : List α} (h : ∀ x ∈ l, p x = false) : fstI p l = -1 := by
  have : l.findIdx? p = none := List.findIdx?_eq_none_iff.2 h
  unfold fstI
  rw [this]
theorem fstI_cases {α : Type} (p : α → Bool) (l : List α) : (fstI p l = -1 ∧ ∀ x ∈ l, p x = false) ∨ ∃ k : Nat, ∃ h : k < l.length, fstI p l = (k : Int) ∧ p l[k] = true ∧ ∀ i (h : i < k), p (l[i]'(by omega)) = false := by
  unfold fstI
  cases hf : l.findIdx? p with
  | none => exact .inl ⟨rfl, List.findIdx?_eq_none_iff.1 hf⟩
  | some k =>
    obtain ⟨h1, h2, h3⟩ := List.findIdx?_eq_some_iff_getElem.1 hf
    exact .inr ⟨k, h1, rfl, h2, fun i hi => by simpa using h3 i hi⟩
theorem fstI_any {α : Type} (p : α → Bool) (l : List α) : decide (0 ≤ fstI p l) = l.any p := by
  rcases fstI_cases p l with ⟨h1, h2⟩ | ⟨k, hk, h1, h2, _⟩
  · rw [h1]
    symm
    simpa using h2
  · rw [h1]
    have : l.any p = true := List.any_eq_true.2 ⟨_, List.getElem_mem hk, h2⟩
    rw [this]
    simp
/-- is a value in a class? c: the constants, rising -/
def hitP (c : List Int) (a n : Int) (x : Cls) : Bool := (a != -1 && hasB x.attrs a) || (a == -1 && decide (n ∈ c) && x.const == (lessN c n : Int))
def placeM (z : Zn) (consts : List Int) (a n : Int) : Int := fstI (hitP (sortR consts) a n) z.cls
def cmpZ (z : Zn) (consts : List Int) (la ln ra rn : Int) : Int :=
  if placeM z consts la ln < 0 ∨ placeM z consts ra rn < 0 then 0 else cmpI (placeM z consts la ln) (placeM z consts ra rn)
set_option maxRecDepth 100000 in
theorem indexFc_A (g : FuncId) (caps : List AV) (l : List Cls) (p : Cls → Bool) (hl : l.length ≤ 1000000) (ht : treeL caps) (hp : ∀ x ∈ l, ADet Tryz.prog g (.agg (eCls x) :: caps) (val (.bool (p x)))) : ADet Tryz.prog 78 [.sl 2 (l.map eCls), .fn g caps] (val (.int .i64 (fstI p l))) := by
  refine adet_of_code mixedT Tryz.func78 rfl (by decide) Tryz.ntmps78 Tryz.results78 rfl (val_ok _) ?_
  have hlt0 : AV.ltL 0 caps := ltL_tree ht
  (repeat' (first | simp (maxSteps := 5000000) (implicitDefEqProofs := false) only [ruA, ruB, aEv, aTake, aLoad, aField, aIndex, aLen, aBin, bin2, aUn, un1, aExtract, aConv, ASt.get, aget, ASt.put, aStore, aBox, aAppend, aBuildSlice, aMake, aBuild, aFill, oneParts, allC, aBinS, yv, aCells, oneC, oneCL, treeC, treeL, aLit, aDst, aSrc, appTab, Value.cells, Value.oneCell', envOf, aResL, aOne, ↓reduceIte, reduceCtorEq, forall_const, Nat.reduceLT, Nat.reduceEqDiff, Nat.reduceAdd, Nat.reduceMul, Nat.reduceSub, Nat.reduceLeDiff, Nat.reduceBEq, eq_self, implies_true, ne_eq, dref, dref1, dref2, aExecS, aStoreB, aTakes, aTakeE, aElder, aFrom, aFresh, isLoad, aBuildSlice1, frzs, frz1, ownIds, AV.frz, AV.frzL, frzEnv, AV.shift, AV.shiftL, aFieldV, aSliceW, aSliceO, aSlice, aSliceR, aSliceS, aBd, aMax, frzAVs, frzAV, frzTab, AObj.frz, aMM, aNilS, aMay, tyE_43, tyK_43, tyK_3, tyA_87, tyS_87] | (with_reducible refine aIf_split (fun _ => ?_) (fun _ => ?_)) | (with_reducible refine aSel_split (fun _ => ?_) (fun _ => ?_)) | (with_reducible refine aGd_split (fun _ => ?_) (fun _ => ?_))))
  refine aLoop_of (fun st => ∃ k : Nat, k ≤ l.length ∧ (∀ i (h : i < l.length), i < k → p l[i] = false) ∧ st = ⟨19, [(0, .sl 2 (l.map eCls)), (1, .fn g caps), (7, eI (l.length : Int)), (8, eI (k : Int))], [], 0⟩) (fun st => l.length - slotN st 8) ⟨_, (weak_cut1 (by (first | ((simp only [envIn, tabIn, envLt, tabLt, AObj.lt, AV.lt, AV.ltL, ruW, ASt.get, aget, ASt.put, ↓reduceIte, reduceCtorEq, Nat.reduceLT, Nat.reduceEqDiff, Nat.reduceAdd, Nat.reduceLeDiff, eq_self, implies_true, hlt0]) <;> (repeat' apply And.intro) <;> first | (rw [wrapK (by omega)]; done) | (simp; done) | omega) | fail))), 0, Nat.zero_le _, fun i _ h => by omega, rfl⟩ ?_
  rintro _ ⟨k, hk, hn, rfl⟩
  by_cases hlt : k < l.length
  · (repeat' (first | simp (maxSteps := 5000000) (implicitDefEqProofs := false) only [ruA, ruB, aEv, aTake, aLoad, aField, aIndex, aLen, aBin, bin2, aUn, un1, aExtract, aConv, ASt.get, aget, ASt.put, aStore, aBox, aAppend, aBuildSlice, aMake, aBuild, aFill, oneParts, allC, aBinS, yv, aCells, oneC, oneCL, treeC, treeL, aLit, aDst, aSrc, appTab, Value.cells, Value.oneCell', envOf, aResL, aOne, ↓reduceIte, reduceCtorEq, forall_const, Nat.reduceLT, Nat.reduceEqDiff, Nat.reduceAdd, Nat.reduceMul, Nat.reduceSub, Nat.reduceLeDiff, Nat.reduceBEq, eq_self, implies_true, ne_eq, dref, dref1, dref2, aExecS, aStoreB, aTakes, aTakeE, aElder, aFrom, aFresh, isLoad, aBuildSlice1, frzs, frz1, ownIds, AV.frz, AV.frzL, frzEnv, AV.shift, AV.shiftL, aFieldV, aSliceW, aSliceO, aSlice, aSliceR, aSliceS, aBd, aMax, frzAVs, frzAV, frzTab, AObj.frz, aMM, aNilS, aMay, tyE_43, tyK_43, tyK_3, tyA_87, tyS_87, row_at, hlt] | (with_reducible refine aIf_split (fun _ => ?_) (fun _ => ?_)) | (with_reducible refine aSel_split (fun _ => ?_) (fun _ => ?_)) | (with_reducible refine aGd_split (fun _ => ?_) (fun _ => ?_))))
    refine callClo (args := [_]) ht (hp _ (List.getElem_mem hlt)) ?_
    (repeat' (first | simp (maxSteps := 5000000) (implicitDefEqProofs := false) only [ruA, ruB, aEv, aTake, aLoad, aField, aIndex, aLen, aBin, bin2, aUn, un1, aExtract, aConv, ASt.get, aget, ASt.put, aStore, aBox, aAppend, aBuildSlice, aMake, aBuild, aFill, oneParts, allC, aBinS, yv, aCells, oneC, oneCL, treeC, treeL, aLit, aDst, aSrc, appTab, Value.cells, Value.oneCell', envOf, aResL, aOne, ↓reduceIte, reduceCtorEq, forall_const, Nat.reduceLT, Nat.reduceEqDiff, Nat.reduceAdd, Nat.reduceMul, Nat.reduceSub, Nat.reduceLeDiff, Nat.reduceBEq, eq_self, implies_true, ne_eq, dref, dref1, dref2, aExecS, aStoreB, aTakes, aTakeE, aElder, aFrom, aFresh, isLoad, aBuildSlice1, frzs, frz1, ownIds, AV.frz, AV.frzL, frzEnv, AV.shift, AV.shiftL, aFieldV, aSliceW, aSliceO, aSlice, aSliceR, aSliceS, aBd, aMax, frzAVs, frzAV, frzTab, AObj.frz, aMM, aNilS, aMay, tyE_43, tyK_43, tyK_3, tyA_87, tyS_87, row_at, hlt] | (with_reducible refine aIf_split (fun _ => ?_) (fun _ => ?_)) | (with_reducible refine aSel_split (fun _ => ?_) (fun _ => ?_)) | (with_reducible refine aGd_split (fun _ => ?_) (fun _ => ?_))))
    · rename_i h
      rw [fstI_at hlt h fun i hi => hn i (by omega) hi]
    · rename_i h
      refine roundI (weak_cut1 (by (first | ((simp only [envIn, tabIn, envLt, tabLt, AObj.lt, AV.lt, AV.ltL, ruW, ASt.get, aget, ASt.put, ↓reduceIte, reduceCtorEq, Nat.reduceLT, Nat.reduceEqDiff, Nat.reduceAdd, Nat.reduceLeDiff, eq_self, implies_true, hlt0]) <;> (repeat' apply And.intro) <;> first | (rw [wrapK (by omega)]; done) | (simp; done) | omega) | fail))) ⟨k + 1, by omega, fun i hi h2 => ?_, rfl⟩ (by simp only [slotN, ruW, ASt.get, aget, ASt.put, ↓reduceIte, reduceCtorEq, Nat.reduceLT, Nat.reduceEqDiff, Nat.reduceAdd, Nat.reduceLeDiff, eq_self, implies_true]; omega)
      rcases Nat.lt_or_ge i k with h3 | h3
      · exact hn i hi h3
      · obtain rfl : i = k := by omega
        exact h
  · obtain rfl : k = l.length := by omega
    (repeat' (first | simp (maxSteps := 5000000) (implicitDefEqProofs := false) only [ruA, ruB, aEv, aTake, aLoad, aField, aIndex, aLen, aBin, bin2, aUn, un1, aExtract, aConv, ASt.get, aget, ASt.put, aStore, aBox, aAppend, aBuildSlice, aMake, aBuild, aFill, oneParts, allC, aBinS, yv, aCells, oneC, oneCL, treeC, treeL, aLit, aDst, aSrc, appTab, Value.cells, Value.oneCell', envOf, aResL, aOne, ↓reduceIte, reduceCtorEq, forall_const, Nat.reduceLT, Nat.reduceEqDiff, Nat.reduceAdd, Nat.reduceMul, Nat.reduceSub, Nat.reduceLeDiff, Nat.reduceBEq, eq_self, implies_true, ne_eq, dref, dref1, dref2, aExecS, aStoreB, aTakes, aTakeE, aElder, aFrom, aFresh, isLoad, aBuildSlice1, frzs, frz1, ownIds, AV.frz, AV.frzL, frzEnv, AV.shift, AV.shiftL, aFieldV, aSliceW, aSliceO, aSlice, aSliceR, aSliceS, aBd, aMax, frzAVs, frzAV, frzTab, AObj.frz, aMM, aNilS, aMay, tyE_43, tyK_43, tyK_3, tyA_87, tyS_87, hlt] | (with_reducible refine aIf_split (fun _ => ?_) (fun _ => ?_)) | (with_reducible refine aSel_split (fun _ => ?_) (fun _ => ?_)) | (with_reducible refine aGd_split (fun _ => ?_) (fun _ => ?_))))
    rw [fstI_none fun x hx => by obtain ⟨i, hi, rfl⟩ := List.getElem_of_mem hx; exact hn i hi hi]
set_option maxRecDepth 100000 in
theorem place1_A (c : List Int) (a n : Int) (x : Cls) : ADet Tryz.prog 79 [.agg (eCls x), .rp [eI a, eI n], .rp [eB (decide (n ∈ c))], .rp [eI (lessN c n : Int)]] (val (.bool (hitP c a n x))) := by
  refine adet_of_code mixedT Tryz.func79 rfl (by decide) Tryz.ntmps79 Tryz.results79 rfl (val_ok _) ?_
  (repeat' (first | simp (maxSteps := 5000000) (implicitDefEqProofs := false) only [ruA, ruB, aEv, aTake, aLoad, aField, aIndex, aLen, aBin, bin2, aUn, un1, aExtract, aConv, ASt.get, aget, ASt.put, aStore, aBox, aAppend, aBuildSlice, aMake, aBuild, aFill, oneParts, allC, aBinS, yv, aCells, oneC, oneCL, treeC, treeL, aLit, aDst, aSrc, appTab, Value.cells, Value.oneCell', envOf, aResL, aOne, ↓reduceIte, reduceCtorEq, forall_const, Nat.reduceLT, Nat.reduceEqDiff, Nat.reduceAdd, Nat.reduceMul, Nat.reduceSub, Nat.reduceLeDiff, Nat.reduceBEq, eq_self, implies_true, ne_eq, dref, dref1, dref2, aExecS, aStoreB, aTakes, aTakeE, aElder, aFrom, aFresh, isLoad, aBuildSlice1, frzs, frz1, ownIds, AV.frz, AV.frzL, frzEnv, AV.shift, AV.shiftL, aFieldV, aSliceW, aSliceO, aSlice, aSliceR, aSliceS, aBd, aMax, frzAVs, frzAV, frzTab, AObj.frz, aMM, aNilS, aMay, tyF_35_0, tyA_3, tyS_3, tyK_3, tyF_87_0, tyA_4, tyS_4, tyF_87_1] | (with_reducible refine aIf_split (fun _ => ?_) (fun _ => ?_)) | (with_reducible refine aSel_split (fun _ => ?_) (fun _ => ?_)) | (with_reducible refine aGd_split (fun _ => ?_) (fun _ => ?_)) | (with_reducible refine aDraw_quiet (by kernel_rfl) ?_) | ((with_reducible apply callV (g := 29)); exact (has_A x.attrs a)) | ((with_reducible apply callD (g := 29)); exact (has_A x.attrs a))))
  all_goals simp_all [hitP]
set_option maxRecDepth 100000 in
set_option maxHeartbeats 8000000 in
theorem place_A (z : Zn) (consts : List Int) (a n : Int) (h1 : z.cls.length ≤ 1000000) (h2 : consts.length ≤ 1000000) : ADet Tryz.prog 57 [.agg (eZn z), sI consts, .agg [eI a, eI n]] (val (.int .i64 (placeM z consts a n))) := by
  refine adet_of_code mixedT Tryz.func57 rfl (by decide) Tryz.ntmps57 Tryz.results57 rfl (val_ok _) ?_
  have hlen := sortR_len consts
  have hS := numSorted_A consts h2
  have hF := numFind_A (sortR consts) n (sortR_up consts).1 (by omega)
  have hI := indexFc_A 79 [.rp [eI a, eI n], .rp [eB (decide (n ∈ sortR consts))], .rp [eI (lessN (sortR consts) n : Int)]] z.cls (hitP (sortR consts) a n) h1 (by simp [treeL, treeC]) (fun x _ => place1_A (sortR consts) a n x)
  (repeat' (first | simp (maxSteps := 5000000) (implicitDefEqProofs := false) only [ruA, ruB, aEv, aTake, aLoad, aField, aIndex, aLen, aBin, bin2, aUn, un1, aExtract, aConv, ASt.get, aget, ASt.put, aStore, aBox, aAppend, aBuildSlice, aMake, aBuild, aFill, oneParts, allC, aBinS, yv, aCells, oneC, oneCL, treeC, treeL, aLit, aDst, aSrc, appTab, Value.cells, Value.oneCell', envOf, aResL, aOne, ↓reduceIte, reduceCtorEq, forall_const, Nat.reduceLT, Nat.reduceEqDiff, Nat.reduceAdd, Nat.reduceMul, Nat.reduceSub, Nat.reduceLeDiff, Nat.reduceBEq, eq_self, implies_true, ne_eq, dref, dref1, dref2, aExecS, aStoreB, aTakes, aTakeE, aElder, aFrom, aFresh, isLoad, aBuildSlice1, frzs, frz1, ownIds, AV.frz, AV.frzL, frzEnv, AV.shift, AV.shiftL, aFieldV, aSliceW, aSliceO, aSlice, aSliceR, aSliceS, aBd, aMax, frzAVs, frzAV, frzTab, AObj.frz, aMM, aNilS, aMay, tyF_35_1, tyA_2, tyS_2, tyZ_3, tyZ_4, tyS_3, tyS_4, tyF_46_0, tyA_43, tyS_43] | (with_reducible refine aIf_split (fun _ => ?_) (fun _ => ?_)) | (with_reducible refine aSel_split (fun _ => ?_) (fun _ => ?_)) | (with_reducible refine aGd_split (fun _ => ?_) (fun _ => ?_))))
  refine aDraw_held [] [0, 2, 3] (.three 1 (.three 4 (.take 5 (.take 6 (.take 7 (.two 8 (.exec 9 (.exec 10 (.exec 11 .done))) 9 (.exec 8 (.exec 10 (.exec 11 .done))))))) 8 (.two 4 (.take 5 (.take 6 (.take 7 (.exec 9 (.exec 10 (.exec 11 .done)))))) 9 (.exec 4 (.take 5 (.take 6 (.take 7 (.exec 10 (.exec 11 .done))))))) 9 (.two 4 (.take 5 (.take 6 (.take 7 (.exec 8 (.exec 10 (.exec 11 .done)))))) 8 (.exec 4 (.take 5 (.take 6 (.take 7 (.exec 10 (.exec 11 .done)))))))) 8 (.two 1 (.two 4 (.take 5 (.take 6 (.take 7 (.exec 9 (.exec 10 (.exec 11 .done)))))) 9 (.exec 4 (.take 5 (.take 6 (.take 7 (.exec 10 (.exec 11 .done))))))) 9 (.exec 1 (.exec 4 (.take 5 (.take 6 (.take 7 (.exec 10 (.exec 11 .done)))))))) 9 (.two 1 (.two 4 (.take 5 (.take 6 (.take 7 (.exec 8 (.exec 10 (.exec 11 .done)))))) 8 (.exec 4 (.take 5 (.take 6 (.take 7 (.exec 10 (.exec 11 .done))))))) 8 (.exec 1 (.exec 4 (.take 5 (.take 6 (.take 7 (.exec 10 (.exec 11 .done))))))))) (by kernel_rfl) (by simp [ATab.get_cons]) ?_
  (repeat' (first | simp (maxSteps := 5000000) (implicitDefEqProofs := false) only [ruA, ruB, aEv, aTake, aLoad, aField, aIndex, aLen, aBin, bin2, aUn, un1, aExtract, aConv, ASt.get, aget, ASt.put, aStore, aBox, aAppend, aBuildSlice, aMake, aBuild, aFill, oneParts, allC, aBinS, yv, aCells, oneC, oneCL, treeC, treeL, aLit, aDst, aSrc, appTab, Value.cells, Value.oneCell', envOf, aResL, aOne, ↓reduceIte, reduceCtorEq, forall_const, Nat.reduceLT, Nat.reduceEqDiff, Nat.reduceAdd, Nat.reduceMul, Nat.reduceSub, Nat.reduceLeDiff, Nat.reduceBEq, eq_self, implies_true, ne_eq, dref, dref1, dref2, aExecS, aStoreB, aTakes, aTakeE, aElder, aFrom, aFresh, isLoad, aBuildSlice1, frzs, frz1, ownIds, AV.frz, AV.frzL, frzEnv, AV.shift, AV.shiftL, aFieldV, aSliceW, aSliceO, aSlice, aSliceR, aSliceS, aBd, aMax, frzAVs, frzAV, frzTab, AObj.frz, aMM, aNilS, aMay, tyF_35_1, tyA_2, tyS_2, tyZ_3, tyZ_4, tyS_3, tyS_4, tyF_46_0, tyA_43, tyS_43] | (with_reducible refine aIf_split (fun _ => ?_) (fun _ => ?_)) | (with_reducible refine aSel_split (fun _ => ?_) (fun _ => ?_)) | (with_reducible refine aGd_split (fun _ => ?_) (fun _ => ?_)) | (with_reducible refine aDraw_quiet (by kernel_rfl) ?_) | ((with_reducible apply callT); exact (hS); exact (.inl (by simp [roL, roA, treeL, treeC]))) | ((with_reducible apply callT); exact (hF); exact (.inl (by simp [roL, roA, treeL, treeC]))) | (with_reducible apply And.intro) | ((with_reducible apply callV); exact (hI)) | ((with_reducible apply callD); exact (hI))))
  all_goals rfl
end
section
open Go.RowKit
theorem isNaNI_A (a : Int) : ADet Tryz.prog 83 [eI a] (val (.bool false)) := by
  refine adet_of_code mixedT Tryz.func83 rfl (by decide) Tryz.ntmps83 Tryz.results83 rfl (val_ok _) ?_
  have h : (a != a) = false := by simp
  (repeat' (first | simp (maxSteps := 5000000) (implicitDefEqProofs := false) only [ruA, ruB, aEv, aTake, aLoad, aField, aIndex, aLen, aBin, bin2, aUn, un1, aExtract, aConv, ASt.get, aget, ASt.put, aStore, aBox, aAppend, aBuildSlice, aMake, aBuild, aFill, oneParts, allC, aBinS, yv, aCells, oneC, oneCL, treeC, treeL, aLit, aDst, aSrc, appTab, Value.cells, Value.oneCell', envOf, aResL, aOne, ↓reduceIte, reduceCtorEq, forall_const, Nat.reduceLT, Nat.reduceEqDiff, Nat.reduceAdd, Nat.reduceMul, Nat.reduceSub, Nat.reduceLeDiff, Nat.reduceBEq, eq_self, implies_true, ne_eq, dref, dref1, dref2, aExecS, aStoreB, aTakes, aTakeE, aElder, aFrom, aFresh, isLoad, aBuildSlice1, frzs, frz1, ownIds, AV.frz, AV.frzL, frzEnv, AV.shift, AV.shiftL, aFieldV, aSliceW, aSliceO, aSlice, aSliceR, aSliceS, aBd, aMax, frzAVs, frzAV, frzTab, AObj.frz, aMM, aNilS, aMay, tyK_3, h] | (with_reducible refine aIf_split (fun _ => ?_) (fun _ => ?_)) | (with_reducible refine aSel_split (fun _ => ?_) (fun _ => ?_)) | (with_reducible refine aGd_split (fun _ => ?_) (fun _ => ?_)) | (with_reducible refine aDraw_quiet (by kernel_rfl) ?_)))
theorem cmpI_A (a b : Int) : ADet Tryz.prog 64 [eI a, eI b] (val (.int .i64 (cmpI a b))) := by
  refine adet_of_code mixedT Tryz.func64 rfl (by decide) Tryz.ntmps64 Tryz.results64 rfl (val_ok _) ?_
  (repeat' (first | simp (maxSteps := 5000000) (implicitDefEqProofs := false) only [ruA, ruB, aEv, aTake, aLoad, aField, aIndex, aLen, aBin, bin2, aUn, un1, aExtract, aConv, ASt.get, aget, ASt.put, aStore, aBox, aAppend, aBuildSlice, aMake, aBuild, aFill, oneParts, allC, aBinS, yv, aCells, oneC, oneCL, treeC, treeL, aLit, aDst, aSrc, appTab, Value.cells, Value.oneCell', envOf, aResL, aOne, ↓reduceIte, reduceCtorEq, forall_const, Nat.reduceLT, Nat.reduceEqDiff, Nat.reduceAdd, Nat.reduceMul, Nat.reduceSub, Nat.reduceLeDiff, Nat.reduceBEq, eq_self, implies_true, ne_eq, dref, dref1, dref2, aExecS, aStoreB, aTakes, aTakeE, aElder, aFrom, aFresh, isLoad, aBuildSlice1, frzs, frz1, ownIds, AV.frz, AV.frzL, frzEnv, AV.shift, AV.shiftL, aFieldV, aSliceW, aSliceO, aSlice, aSliceR, aSliceS, aBd, aMax, frzAVs, frzAV, frzTab, AObj.frz, aMM, aNilS, aMay, tyK_3] | (with_reducible refine aIf_split (fun _ => ?_) (fun _ => ?_)) | (with_reducible refine aSel_split (fun _ => ?_) (fun _ => ?_)) | (with_reducible refine aGd_split (fun _ => ?_) (fun _ => ?_)) | (with_reducible refine aDraw_quiet (by kernel_rfl) ?_) | ((with_reducible apply callV (g := 83)); exact (isNaNI_A a)) | ((with_reducible apply callD (g := 83)); exact (isNaNI_A a)) | ((with_reducible apply callV (g := 83)); exact (isNaNI_A b)) | ((with_reducible apply callD (g := 83)); exact (isNaNI_A b))))
  all_goals (simp only [cmpI]; simp_all; try omega)
set_option maxRecDepth 100000 in
set_option maxHeartbeats 8000000 in
theorem compareZ_A (z : Zn) (consts : List Int) (la ln ra rn : Int) (h1 : z.cls.length ≤ 1000000) (h2 : consts.length ≤ 1000000) : ADet Tryz.prog 36 [.agg (eZn z), sI consts, .agg [eI la, eI ln], .agg [eI ra, eI rn]] (val (.int .i64 (cmpZ z consts la ln ra rn))) := by
  refine adet_of_code mixedT Tryz.func36 rfl (by decide) Tryz.ntmps36 Tryz.results36 rfl (val_ok _) ?_
  unfold cmpZ
  (repeat' (first | simp (maxSteps := 5000000) (implicitDefEqProofs := false) only [ruA, ruB, aEv, aTake, aLoad, aField, aIndex, aLen, aBin, bin2, aUn, un1, aExtract, aConv, ASt.get, aget, ASt.put, aStore, aBox, aAppend, aBuildSlice, aMake, aBuild, aFill, oneParts, allC, aBinS, yv, aCells, oneC, oneCL, treeC, treeL, aLit, aDst, aSrc, appTab, Value.cells, Value.oneCell', envOf, aResL, aOne, ↓reduceIte, reduceCtorEq, forall_const, Nat.reduceLT, Nat.reduceEqDiff, Nat.reduceAdd, Nat.reduceMul, Nat.reduceSub, Nat.reduceLeDiff, Nat.reduceBEq, eq_self, implies_true, ne_eq, dref, dref1, dref2, aExecS, aStoreB, aTakes, aTakeE, aElder, aFrom, aFresh, isLoad, aBuildSlice1, frzs, frz1, ownIds, AV.frz, AV.frzL, frzEnv, AV.shift, AV.shiftL, aFieldV, aSliceW, aSliceO, aSlice, aSliceR, aSliceS, aBd, aMax, frzAVs, frzAV, frzTab, AObj.frz, aMM, aNilS, aMay, tyA_46, tyS_46, tyA_35, tyS_35, tyK_3] | (with_reducible refine aIf_split (fun _ => ?_) (fun _ => ?_)) | (with_reducible refine aSel_split (fun _ => ?_) (fun _ => ?_)) | (with_reducible refine aGd_split (fun _ => ?_) (fun _ => ?_)) | (with_reducible refine aDraw_quiet (by kernel_rfl) ?_) | ((with_reducible apply callV (g := 57)); exact (place_A z consts la ln h1 h2)) | ((with_reducible apply callD (g := 57)); exact (place_A z consts la ln h1 h2)) | ((with_reducible apply callV (g := 57)); exact (place_A z consts ra rn h1 h2)) | ((with_reducible apply callD (g := 57)); exact (place_A z consts ra rn h1 h2)) | ((with_reducible apply callV (g := 64)); exact (cmpI_A _ _)) | ((with_reducible apply callD (g := 64)); exact (cmpI_A _ _))))
  all_goals (simp_all; try omega)
set_option maxRecDepth 100000 in
theorem indexFi_A (g : FuncId) (caps : List AV) (l : List (Inst)) (p : Inst → Bool) (hl : l.length ≤ 1000000) (ht : treeL caps) (hp : ∀ x ∈ l, ADet Tryz.prog g (.agg (eInst x) :: caps) (val (.bool (p x)))) : ADet Tryz.prog 75 [sInsts l, .fn g caps] (val (.int .i64 (fstI p l))) := by
  refine adet_of_code mixedT Tryz.func75 rfl (by decide) Tryz.ntmps75 Tryz.results75 rfl (val_ok _) ?_
  have hlt0 : AV.ltL 0 caps := ltL_tree ht
  (repeat' (first | simp (maxSteps := 5000000) (implicitDefEqProofs := false) only [ruA, ruB, aEv, aTake, aLoad, aField, aIndex, aLen, aBin, bin2, aUn, un1, aExtract, aConv, ASt.get, aget, ASt.put, aStore, aBox, aAppend, aBuildSlice, aMake, aBuild, aFill, oneParts, allC, aBinS, yv, aCells, oneC, oneCL, treeC, treeL, aLit, aDst, aSrc, appTab, Value.cells, Value.oneCell', envOf, aResL, aOne, ↓reduceIte, reduceCtorEq, forall_const, Nat.reduceLT, Nat.reduceEqDiff, Nat.reduceAdd, Nat.reduceMul, Nat.reduceSub, Nat.reduceLeDiff, Nat.reduceBEq, eq_self, implies_true, ne_eq, dref, dref1, dref2, aExecS, aStoreB, aTakes, aTakeE, aElder, aFrom, aFresh, isLoad, aBuildSlice1, frzs, frz1, ownIds, AV.frz, AV.frzL, frzEnv, AV.shift, AV.shiftL, aFieldV, aSliceW, aSliceO, aSlice, aSliceR, aSliceS, aBd, aMax, frzAVs, frzAV, frzTab, AObj.frz, aMM, aNilS, aMay, tyE_53, tyK_53, tyK_3, tyA_37, tyS_37] | (with_reducible refine aIf_split (fun _ => ?_) (fun _ => ?_)) | (with_reducible refine aSel_split (fun _ => ?_) (fun _ => ?_)) | (with_reducible refine aGd_split (fun _ => ?_) (fun _ => ?_))))
  refine aLoop_of (fun st => ∃ k : Nat, k ≤ l.length ∧ (∀ i (h : i < l.length), i < k → p l[i] = false) ∧ st = ⟨19, [(0, sInsts l), (1, .fn g caps), (7, eI (l.length : Int)), (8, eI (k : Int))], [], 0⟩) (fun st => l.length - slotN st 8) ⟨_, (weak_cut1 (by (first | ((simp only [envIn, tabIn, envLt, tabLt, AObj.lt, AV.lt, AV.ltL, ruW, ASt.get, aget, ASt.put, ↓reduceIte, reduceCtorEq, Nat.reduceLT, Nat.reduceEqDiff, Nat.reduceAdd, Nat.reduceLeDiff, eq_self, implies_true, hlt0]) <;> (repeat' apply And.intro) <;> first | (rw [wrapK (by omega)]; done) | (simp; done) | omega) | fail))), 0, Nat.zero_le _, fun i _ h => by omega, rfl⟩ ?_
  rintro _ ⟨k, hk, hn, rfl⟩
  by_cases hlt : k < l.length
  · (repeat' (first | simp (maxSteps := 5000000) (implicitDefEqProofs := false) only [ruA, ruB, aEv, aTake, aLoad, aField, aIndex, aLen, aBin, bin2, aUn, un1, aExtract, aConv, ASt.get, aget, ASt.put, aStore, aBox, aAppend, aBuildSlice, aMake, aBuild, aFill, oneParts, allC, aBinS, yv, aCells, oneC, oneCL, treeC, treeL, aLit, aDst, aSrc, appTab, Value.cells, Value.oneCell', envOf, aResL, aOne, ↓reduceIte, reduceCtorEq, forall_const, Nat.reduceLT, Nat.reduceEqDiff, Nat.reduceAdd, Nat.reduceMul, Nat.reduceSub, Nat.reduceLeDiff, Nat.reduceBEq, eq_self, implies_true, ne_eq, dref, dref1, dref2, aExecS, aStoreB, aTakes, aTakeE, aElder, aFrom, aFresh, isLoad, aBuildSlice1, frzs, frz1, ownIds, AV.frz, AV.frzL, frzEnv, AV.shift, AV.shiftL, aFieldV, aSliceW, aSliceO, aSlice, aSliceR, aSliceS, aBd, aMax, frzAVs, frzAV, frzTab, AObj.frz, aMM, aNilS, aMay, tyE_53, tyK_53, tyK_3, tyA_37, tyS_37, row_at, hlt] | (with_reducible refine aIf_split (fun _ => ?_) (fun _ => ?_)) | (with_reducible refine aSel_split (fun _ => ?_) (fun _ => ?_)) | (with_reducible refine aGd_split (fun _ => ?_) (fun _ => ?_))))
    refine callClo (args := [_]) ht (hp _ (List.getElem_mem hlt)) ?_
    (repeat' (first | simp (maxSteps := 5000000) (implicitDefEqProofs := false) only [ruA, ruB, aEv, aTake, aLoad, aField, aIndex, aLen, aBin, bin2, aUn, un1, aExtract, aConv, ASt.get, aget, ASt.put, aStore, aBox, aAppend, aBuildSlice, aMake, aBuild, aFill, oneParts, allC, aBinS, yv, aCells, oneC, oneCL, treeC, treeL, aLit, aDst, aSrc, appTab, Value.cells, Value.oneCell', envOf, aResL, aOne, ↓reduceIte, reduceCtorEq, forall_const, Nat.reduceLT, Nat.reduceEqDiff, Nat.reduceAdd, Nat.reduceMul, Nat.reduceSub, Nat.reduceLeDiff, Nat.reduceBEq, eq_self, implies_true, ne_eq, dref, dref1, dref2, aExecS, aStoreB, aTakes, aTakeE, aElder, aFrom, aFresh, isLoad, aBuildSlice1, frzs, frz1, ownIds, AV.frz, AV.frzL, frzEnv, AV.shift, AV.shiftL, aFieldV, aSliceW, aSliceO, aSlice, aSliceR, aSliceS, aBd, aMax, frzAVs, frzAV, frzTab, AObj.frz, aMM, aNilS, aMay, tyE_53, tyK_53, tyK_3, tyA_37, tyS_37, row_at, hlt] | (with_reducible refine aIf_split (fun _ => ?_) (fun _ => ?_)) | (with_reducible refine aSel_split (fun _ => ?_) (fun _ => ?_)) | (with_reducible refine aGd_split (fun _ => ?_) (fun _ => ?_))))
    · rename_i h
      rw [fstI_at hlt h fun i hi => hn i (by omega) hi]
    · rename_i h
      refine roundI (weak_cut1 (by (first | ((simp only [envIn, tabIn, envLt, tabLt, AObj.lt, AV.lt, AV.ltL, ruW, ASt.get, aget, ASt.put, ↓reduceIte, reduceCtorEq, Nat.reduceLT, Nat.reduceEqDiff, Nat.reduceAdd, Nat.reduceLeDiff, eq_self, implies_true, hlt0]) <;> (repeat' apply And.intro) <;> first | (rw [wrapK (by omega)]; done) | (simp; done) | omega) | fail))) ⟨k + 1, by omega, fun i hi h2 => ?_, rfl⟩ (by simp only [slotN, ruW, ASt.get, aget, ASt.put, ↓reduceIte, reduceCtorEq, Nat.reduceLT, Nat.reduceEqDiff, Nat.reduceAdd, Nat.reduceLeDiff, eq_self, implies_true]; omega)
      rcases Nat.lt_or_ge i k with h3 | h3
      · exact hn i hi h3
      · obtain rfl : i = k := by omega
        exact h
  · obtain rfl : k = l.length := by omega
    (repeat' (first | simp (maxSteps := 5000000) (implicitDefEqProofs := false) only [ruA, ruB, aEv, aTake, aLoad, aField, aIndex, aLen, aBin, bin2, aUn, un1, aExtract, aConv, ASt.get, aget, ASt.put, aStore, aBox, aAppend, aBuildSlice, aMake, aBuild, aFill, oneParts, allC, aBinS, yv, aCells, oneC, oneCL, treeC, treeL, aLit, aDst, aSrc, appTab, Value.cells, Value.oneCell', envOf, aResL, aOne, ↓reduceIte, reduceCtorEq, forall_const, Nat.reduceLT, Nat.reduceEqDiff, Nat.reduceAdd, Nat.reduceMul, Nat.reduceSub, Nat.reduceLeDiff, Nat.reduceBEq, eq_self, implies_true, ne_eq, dref, dref1, dref2, aExecS, aStoreB, aTakes, aTakeE, aElder, aFrom, aFresh, isLoad, aBuildSlice1, frzs, frz1, ownIds, AV.frz, AV.frzL, frzEnv, AV.shift, AV.shiftL, aFieldV, aSliceW, aSliceO, aSlice, aSliceR, aSliceS, aBd, aMax, frzAVs, frzAV, frzTab, AObj.frz, aMM, aNilS, aMay, tyE_53, tyK_53, tyK_3, tyA_37, tyS_37, hlt] | (with_reducible refine aIf_split (fun _ => ?_) (fun _ => ?_)) | (with_reducible refine aSel_split (fun _ => ?_) (fun _ => ?_)) | (with_reducible refine aGd_split (fun _ => ?_) (fun _ => ?_))))
    rw [fstI_none fun x hx => by obtain ⟨i, hi, rfl⟩ := List.getElem_of_mem hx; exact hn i hi hi]
set_option maxRecDepth 100000 in
theorem containsFi_A (g : FuncId) (caps : List AV) (l : List (Inst)) (p : Inst → Bool) (hl : l.length ≤ 1000000) (ht : treeL caps) (hp : ∀ x ∈ l, ADet Tryz.prog g (.agg (eInst x) :: caps) (val (.bool (p x)))) : ADet Tryz.prog 54 [sInsts l, .fn g caps] (val (.bool (l.any p))) := by
  refine adet_of_code mixedT Tryz.func54 rfl (by decide) Tryz.ntmps54 Tryz.results54 rfl (val_ok _) ?_
  (repeat' (first | simp (maxSteps := 5000000) (implicitDefEqProofs := false) only [ruA, ruB, aEv, aTake, aLoad, aField, aIndex, aLen, aBin, bin2, aUn, un1, aExtract, aConv, ASt.get, aget, ASt.put, aStore, aBox, aAppend, aBuildSlice, aMake, aBuild, aFill, oneParts, allC, aBinS, yv, aCells, oneC, oneCL, treeC, treeL, aLit, aDst, aSrc, appTab, Value.cells, Value.oneCell', envOf, aResL, aOne, ↓reduceIte, reduceCtorEq, forall_const, Nat.reduceLT, Nat.reduceEqDiff, Nat.reduceAdd, Nat.reduceMul, Nat.reduceSub, Nat.reduceLeDiff, Nat.reduceBEq, eq_self, implies_true, ne_eq, dref, dref1, dref2, aExecS, aStoreB, aTakes, aTakeE, aElder, aFrom, aFresh, isLoad, aBuildSlice1, frzs, frz1, ownIds, AV.frz, AV.frzL, frzEnv, AV.shift, AV.shiftL, aFieldV, aSliceW, aSliceO, aSlice, aSliceR, aSliceS, aBd, aMax, frzAVs, frzAV, frzTab, AObj.frz, aMM, aNilS, aMay, tyK_3] | (with_reducible refine aIf_split (fun _ => ?_) (fun _ => ?_)) | (with_reducible refine aSel_split (fun _ => ?_) (fun _ => ?_)) | (with_reducible refine aGd_split (fun _ => ?_) (fun _ => ?_))))
  refine callV (by simp only [List.map_cons, List.map_nil, dref]; rw [show caps.map (dref2 []) = caps from dref2s_tree ht]; exact indexFi_A g caps l p hl ht hp) ?_
  (repeat' (first | simp (maxSteps := 5000000) (implicitDefEqProofs := false) only [ruA, ruB, aEv, aTake, aLoad, aField, aIndex, aLen, aBin, bin2, aUn, un1, aExtract, aConv, ASt.get, aget, ASt.put, aStore, aBox, aAppend, aBuildSlice, aMake, aBuild, aFill, oneParts, allC, aBinS, yv, aCells, oneC, oneCL, treeC, treeL, aLit, aDst, aSrc, appTab, Value.cells, Value.oneCell', envOf, aResL, aOne, ↓reduceIte, reduceCtorEq, forall_const, Nat.reduceLT, Nat.reduceEqDiff, Nat.reduceAdd, Nat.reduceMul, Nat.reduceSub, Nat.reduceLeDiff, Nat.reduceBEq, eq_self, implies_true, ne_eq, dref, dref1, dref2, aExecS, aStoreB, aTakes, aTakeE, aElder, aFrom, aFresh, isLoad, aBuildSlice1, frzs, frz1, ownIds, AV.frz, AV.frzL, frzEnv, AV.shift, AV.shiftL, aFieldV, aSliceW, aSliceO, aSlice, aSliceR, aSliceS, aBd, aMax, frzAVs, frzAV, frzTab, AObj.frz, aMM, aNilS, aMay, tyK_3] | (with_reducible refine aIf_split (fun _ => ?_) (fun _ => ?_)) | (with_reducible refine aSel_split (fun _ => ?_) (fun _ => ?_)) | (with_reducible refine aGd_split (fun _ => ?_) (fun _ => ?_))))
  rw [fstI_any]
def isCmp (x : Inst) : Bool := decide (3 ≤ x.op) && decide (x.op ≤ 8)
theorem comparesZ_A (x : Inst) : ADet Tryz.prog 56 [.agg (eInst x)] (val (.bool (isCmp x))) := by
  refine adet_of_code mixedT Tryz.func56 rfl (by decide) Tryz.ntmps56 Tryz.results56 rfl (val_ok _) ?_
  unfold isCmp
  (repeat' (first | simp (maxSteps := 5000000) (implicitDefEqProofs := false) only [ruA, ruB, aEv, aTake, aLoad, aField, aIndex, aLen, aBin, bin2, aUn, un1, aExtract, aConv, ASt.get, aget, ASt.put, aStore, aBox, aAppend, aBuildSlice, aMake, aBuild, aFill, oneParts, allC, aBinS, yv, aCells, oneC, oneCL, treeC, treeL, aLit, aDst, aSrc, appTab, Value.cells, Value.oneCell', envOf, aResL, aOne, ↓reduceIte, reduceCtorEq, forall_const, Nat.reduceLT, Nat.reduceEqDiff, Nat.reduceAdd, Nat.reduceMul, Nat.reduceSub, Nat.reduceLeDiff, Nat.reduceBEq, eq_self, implies_true, ne_eq, dref, dref1, dref2, aExecS, aStoreB, aTakes, aTakeE, aElder, aFrom, aFresh, isLoad, aBuildSlice1, frzs, frz1, ownIds, AV.frz, AV.frzL, frzEnv, AV.shift, AV.shiftL, aFieldV, aSliceW, aSliceO, aSlice, aSliceR, aSliceS, aBd, aMax, frzAVs, frzAV, frzTab, AObj.frz, aMM, aNilS, aMay, tyF_37_0, tyA_3, tyS_3, tyK_3] | (with_reducible refine aIf_split (fun _ => ?_) (fun _ => ?_)) | (with_reducible refine aSel_split (fun _ => ?_) (fun _ => ?_)) | (with_reducible refine aGd_split (fun _ => ?_) (fun _ => ?_)) | (with_reducible refine aDraw_quiet (by kernel_rfl) ?_)))
  all_goals grind
def lostB (z : Zn) (c : List Int) (x : Inst) : Bool := isCmp x && (decide (placeM z c x.la x.ln < 0) || decide (placeM z c x.ra x.rn < 0))
def knowsM (l : List Inst) (z : Zn) (c : List Int) : Bool := !(l.any (lostB z c))
set_option maxRecDepth 100000 in
theorem knows1_A (z : Zn) (c : List Int) (x : Inst) (h1 : z.cls.length ≤ 1000000) (h2 : c.length ≤ 1000000) : ADet Tryz.prog 55 [.agg (eInst x), .rp (eZn z), .rp [sI c]] (val (.bool (lostB z c x))) := by
  refine adet_of_code mixedT Tryz.func55 rfl (by decide) Tryz.ntmps55 Tryz.results55 rfl (val_ok _) ?_
  unfold lostB
  (repeat' (first | simp (maxSteps := 5000000) (implicitDefEqProofs := false) only [ruA, ruB, aEv, aTake, aLoad, aField, aIndex, aLen, aBin, bin2, aUn, un1, aExtract, aConv, ASt.get, aget, ASt.put, aStore, aBox, aAppend, aBuildSlice, aMake, aBuild, aFill, oneParts, allC, aBinS, yv, aCells, oneC, oneCL, treeC, treeL, aLit, aDst, aSrc, appTab, Value.cells, Value.oneCell', envOf, aResL, aOne, ↓reduceIte, reduceCtorEq, forall_const, Nat.reduceLT, Nat.reduceEqDiff, Nat.reduceAdd, Nat.reduceMul, Nat.reduceSub, Nat.reduceLeDiff, Nat.reduceBEq, eq_self, implies_true, ne_eq, dref, dref1, dref2, aExecS, aStoreB, aTakes, aTakeE, aElder, aFrom, aFresh, isLoad, aBuildSlice1, frzs, frz1, ownIds, AV.frz, AV.frzL, frzEnv, AV.shift, AV.shiftL, aFieldV, aSliceW, aSliceO, aSlice, aSliceR, aSliceS, aBd, aMax, frzAVs, frzAV, frzTab, AObj.frz, aMM, aNilS, aMay, tyA_37, tyS_37, tyA_46, tyS_46, tyA_23, tyS_23, tyF_37_1, tyA_35, tyS_35, tyK_3, tyF_37_2] | (with_reducible refine aIf_split (fun _ => ?_) (fun _ => ?_)) | (with_reducible refine aSel_split (fun _ => ?_) (fun _ => ?_)) | (with_reducible refine aGd_split (fun _ => ?_) (fun _ => ?_)) | (with_reducible refine aDraw_quiet (by kernel_rfl) ?_) | ((with_reducible apply callV (g := 56)); exact (comparesZ_A x)) | ((with_reducible apply callD (g := 56)); exact (comparesZ_A x)) | ((with_reducible apply callV (g := 57)); exact (place_A z c x.la x.ln h1 h2)) | ((with_reducible apply callD (g := 57)); exact (place_A z c x.la x.ln h1 h2)) | ((with_reducible apply callV (g := 57)); exact (place_A z c x.ra x.rn h1 h2)) | ((with_reducible apply callD (g := 57)); exact (place_A z c x.ra x.rn h1 h2))))
  all_goals (simp_all; try omega)
set_option maxRecDepth 100000 in
theorem knows_A (l : List Inst) (z : Zn) (c : List Int) (hl : l.length ≤ 1000000) (h1 : z.cls.length ≤ 1000000) (h2 : c.length ≤ 1000000) : ADet Tryz.prog 33 [sInsts l, .agg (eZn z), sI c] (val (.bool (knowsM l z c))) := by
  refine adet_of_code mixedT Tryz.func33 rfl (by decide) Tryz.ntmps33 Tryz.results33 rfl (val_ok _) ?_
  unfold knowsM
  have hC := containsFi_A 55 [.rp (eZn z), .rp [sI c]] l (lostB z c) hl (by simp [treeL, treeC]) (fun x _ => knows1_A z c x h1 h2)
  (repeat' (first | simp (maxSteps := 5000000) (implicitDefEqProofs := false) only [ruA, ruB, aEv, aTake, aLoad, aField, aIndex, aLen, aBin, bin2, aUn, un1, aExtract, aConv, ASt.get, aget, ASt.put, aStore, aBox, aAppend, aBuildSlice, aMake, aBuild, aFill, oneParts, allC, aBinS, yv, aCells, oneC, oneCL, treeC, treeL, aLit, aDst, aSrc, appTab, Value.cells, Value.oneCell', envOf, aResL, aOne, ↓reduceIte, reduceCtorEq, forall_const, Nat.reduceLT, Nat.reduceEqDiff, Nat.reduceAdd, Nat.reduceMul, Nat.reduceSub, Nat.reduceLeDiff, Nat.reduceBEq, eq_self, implies_true, ne_eq, dref, dref1, dref2, aExecS, aStoreB, aTakes, aTakeE, aElder, aFrom, aFresh, isLoad, aBuildSlice1, frzs, frz1, ownIds, AV.frz, AV.frzL, frzEnv, AV.shift, AV.shiftL, aFieldV, aSliceW, aSliceO, aSlice, aSliceR, aSliceS, aBd, aMax, frzAVs, frzAV, frzTab, AObj.frz, aMM, aNilS, aMay] | (with_reducible refine aIf_split (fun _ => ?_) (fun _ => ?_)) | (with_reducible refine aSel_split (fun _ => ?_) (fun _ => ?_)) | (with_reducible refine aGd_split (fun _ => ?_) (fun _ => ?_)) | (with_reducible refine aDraw_quiet (by kernel_rfl) ?_) | ((with_reducible apply callV); exact (hC)) | ((with_reducible apply callD); exact (hC))))
set_option maxRecDepth 100000 in
theorem zholds1_A (z : Zn) (c : List Int) (la ln ra rn : Int) (h1 : z.cls.length ≤ 1000000) (h2 : c.length ≤ 1000000) : ADet Tryz.prog 35 [.agg [eI la, eI ln], .agg [eI ra, eI rn], .rp (eZn z), .rp [sI c]] (val (.int .i64 (cmpZ z c la ln ra rn))) := by
  refine adet_of_code mixedT Tryz.func35 rfl (by decide) Tryz.ntmps35 Tryz.results35 rfl (val_ok _) ?_
  (repeat' (first | simp (maxSteps := 5000000) (implicitDefEqProofs := false) only [ruA, ruB, aEv, aTake, aLoad, aField, aIndex, aLen, aBin, bin2, aUn, un1, aExtract, aConv, ASt.get, aget, ASt.put, aStore, aBox, aAppend, aBuildSlice, aMake, aBuild, aFill, oneParts, allC, aBinS, yv, aCells, oneC, oneCL, treeC, treeL, aLit, aDst, aSrc, appTab, Value.cells, Value.oneCell', envOf, aResL, aOne, ↓reduceIte, reduceCtorEq, forall_const, Nat.reduceLT, Nat.reduceEqDiff, Nat.reduceAdd, Nat.reduceMul, Nat.reduceSub, Nat.reduceLeDiff, Nat.reduceBEq, eq_self, implies_true, ne_eq, dref, dref1, dref2, aExecS, aStoreB, aTakes, aTakeE, aElder, aFrom, aFresh, isLoad, aBuildSlice1, frzs, frz1, ownIds, AV.frz, AV.frzL, frzEnv, AV.shift, AV.shiftL, aFieldV, aSliceW, aSliceO, aSlice, aSliceR, aSliceS, aBd, aMax, frzAVs, frzAV, frzTab, AObj.frz, aMM, aNilS, aMay, tyA_46, tyS_46, tyA_23, tyS_23, tyA_35, tyS_35] | (with_reducible refine aIf_split (fun _ => ?_) (fun _ => ?_)) | (with_reducible refine aSel_split (fun _ => ?_) (fun _ => ?_)) | (with_reducible refine aGd_split (fun _ => ?_) (fun _ => ?_)) | (with_reducible refine aDraw_quiet (by kernel_rfl) ?_) | ((with_reducible apply callV (g := 36)); exact (compareZ_A z c la ln ra rn h1 h2)) | ((with_reducible apply callD (g := 36)); exact (compareZ_A z c la ln ra rn h1 h2))))
/-- conditions by whatever compares -/
theorem sides_A (g : FuncId) (caps : List AV) (l : List Inst) (s : St) (f : Int → Int → Int → Int → Int) (hl : l.length ≤ 900) (ho : ∀ x ∈ l, x.ok)
    (hg : ∀ la ln ra rn, ADet Tryz.prog g (.agg [eI la, eI ln] :: .agg [eI ra, eI rn] :: caps) (val (.int .i64 (f la ln ra rn)))) :
    ADet Tryz.prog 34 [sInsts l, .fn g caps, .agg (eSt s)] ⟨.tup [eB (optB (holdsG (fun x => some (f x.la x.ln x.ra x.rn)) s.opn s.don l)), eI (optE (holdsG (fun x => some (f x.la x.ln x.ra x.rn)) s.opn s.don l))], [], 0⟩ :=
  ⟨enters_of Tryz.func34 rfl (by decide), fun S w vs hS hn hv => by
    obtain ⟨a, fv, b, rfl⟩ : ∃ a fv b, vs = #[a, fv, b] := ⟨vs[0]'(by simp at hn; omega), vs[1]'(by simp at hn; omega), vs[2]'(by simp at hn; omega), by
      apply Array.ext (by simpa using hn)
      intro i h1 h2
      simp at h2
      match i with
      | 0 => rfl
      | 1 => rfl
      | 2 => rfl
      | i + 3 => omega⟩
    have hf := hv 1 fv _ rfl rfl
    have hb := hv 2 b _ rfl rfl
    cases hf with
    | fn _ ys _ hyn hyr =>
    cases hb with
    | agg xs cs hxn hr =>
      have hx : ∀ j (hj : j < 5), ∃ x, xs[j]? = some x := fun j hj => ⟨_, Array.getElem?_eq_getElem (by simp at hxn; omega)⟩
      obtain ⟨x0, e0⟩ := hx 0 (by omega)
      obtain ⟨x1, e1⟩ := hx 1 (by omega)
      obtain ⟨x2, e2⟩ := hx 2 (by omega)
      obtain ⟨x3, e3⟩ := hx 3 (by omega)
      obtain ⟨x4, e4⟩ := hx 4 (by omega)
      have hxs : xs = #[x0, x1, x2, x3, x4] := by
        apply Array.ext_getElem?
        intro j
        match j with
        | 0 => simpa using e0
        | 1 => simpa using e1
        | 2 => simpa using e2
        | 3 => simpa using e3
        | 4 => simpa using e4
        | j + 5 =>
          rw [Array.getElem?_eq_none (by simp at hxn; omega)]
          simp
      obtain rfl := rtc (hr 1 x1 _ e1 rfl)
      obtain rfl := rtc (hr 2 x2 _ e2 rfl)
      subst hxs
      have hles : ∀ x ∈ l, LessOK g ys (fun x => some (f x.la x.ln x.ra x.rn)) x w := fun x _ w' hw' => by
        refine (hg x.la x.ln x.ra x.rn).calls (by simp [hyn]; omega) fun j v av h3 h4 => ?_
        match j with
        | 0 =>
          rw [Array.getElem?_append_left (by simp)] at h3
          simp at h3 h4
          subst h3
          subst h4
          refine .agg _ _ rfl fun i u av h5 h6 => ?_
          match i with
          | 0 => simp at h5 h6; subst h5; subst h6; exact .c _
          | 1 => simp at h5 h6; subst h5; subst h6; exact .c _
          | i + 2 => simp at h5
        | 1 =>
          rw [Array.getElem?_append_left (by simp)] at h3
          simp at h3 h4
          subst h3
          subst h4
          refine .agg _ _ rfl fun i u av h5 h6 => ?_
          match i with
          | 0 => simp at h5 h6; subst h5; subst h6; exact .c _
          | 1 => simp at h5 h6; subst h5; subst h6; exact .c _
          | i + 2 => simp at h5
        | j + 2 =>
          have h3' : ys[j]? = some v := by
            rw [Array.getElem?_append_right (by simp)] at h3
            simpa using h3
          have h4' : caps[j]? = some av := by simpa using h4
          exact (hyr j v av h3' h4').mono (fun p hp => hw'.cell (hS _ hp)) (fun b hb => Nat.lt_of_lt_of_le (hS b hb) hw'.size)
      have hcf : ∀ (args : Array Value) (w : World), (callFunc g args).run Tryz.prog w = .ok (.enter g args) w := (hg 0 0 0 0).1
      refine (sides_any l a S g ys x0 s.opn s.don x3 x4 w (rt_insts (hv 0 a _ rfl rfl) ho) hS hl hcf _ hles).mono fun e w' ⟨h1, h2⟩ => ?_
      refine ⟨_, fun _ => undef, _, rfl, ⟨fun id o h => (by cases h), ⟨trivial, trivial, trivial⟩⟩, h1, ⟨belowX h2, fun id o h => (by cases h), fun id id' o o' g h => (by cases h), fun b hb => hb.elim⟩, .tree (.tup _ _ rfl fun j x av h3 h4 => ?_)⟩
      match j with
      | 0 => simp at h3 h4; subst h3; subst h4; exact .c _
      | 1 => simp at h3 h4; subst h3; subst h4; exact .c _
      | j + 2 => simp at h3⟩
def zholdsO (l : List Inst) (z : Zn) (c : List Int) (s : St) : Option Bool := if knowsM l z c = true then holdsG (fun x => some (cmpZ z c x.la x.ln x.ra x.rn)) s.opn s.don l else none
set_option maxRecDepth 100000 in
set_option maxHeartbeats 8000000 in
theorem zholds_A (l : List Inst) (z : Zn) (c : List Int) (s : St) (hl : l.length ≤ 900) (ho : ∀ x ∈ l, x.ok) (h1 : z.cls.length ≤ 1000000) (h2 : c.length ≤ 1000000) : ADet Tryz.prog 18 [sInsts l, .agg (eZn z), sI c, .agg (eSt s)] ⟨.tup [eB (optB (zholdsO l z c s)), eI (optE (zholdsO l z c s))], [], 0⟩ := by
  have hok : (⟨.tup [eB (optB (zholdsO l z c s)), eI (optE (zholdsO l z c s))], [], 0⟩ : Res).Ok := ⟨fun id o h => (by cases h), by simp [AV.lt, AV.ltL]⟩
  refine adet_of_code mixedT Tryz.func18 rfl (by decide) Tryz.ntmps18 Tryz.results18 rfl (hok) ?_
  have hK := knows_A l z c (by omega) h1 h2
  have hS := sides_A 35 [.rp (eZn z), .rp [sI c]] l s (cmpZ z c) hl ho (fun la ln ra rn => zholds1_A z c la ln ra rn h1 h2)
  cases hk : knowsM l z c with
  | true =>
    rw [hk] at hK
    have hz : zholdsO l z c s = holdsG (fun x => some (cmpZ z c x.la x.ln x.ra x.rn)) s.opn s.don l := by unfold zholdsO; rw [if_pos hk]
    rw [hz]
    (repeat' (first | simp (maxSteps := 5000000) (implicitDefEqProofs := false) only [ruA, ruB, aEv, aTake, aLoad, aField, aIndex, aLen, aBin, bin2, aUn, un1, aExtract, aConv, ASt.get, aget, ASt.put, aStore, aBox, aAppend, aBuildSlice, aMake, aBuild, aFill, oneParts, allC, aBinS, yv, aCells, oneC, oneCL, treeC, treeL, aLit, aDst, aSrc, appTab, Value.cells, Value.oneCell', envOf, aResL, aOne, ↓reduceIte, reduceCtorEq, forall_const, Nat.reduceLT, Nat.reduceEqDiff, Nat.reduceAdd, Nat.reduceMul, Nat.reduceSub, Nat.reduceLeDiff, Nat.reduceBEq, eq_self, implies_true, ne_eq, dref, dref1, dref2, aExecS, aStoreB, aTakes, aTakeE, aElder, aFrom, aFresh, isLoad, aBuildSlice1, frzs, frz1, ownIds, AV.frz, AV.frzL, frzEnv, AV.shift, AV.shiftL, aFieldV, aSliceW, aSliceO, aSlice, aSliceR, aSliceS, aBd, aMax, frzAVs, frzAV, frzTab, AObj.frz, aMM, aNilS, aMay, tyA_46, tyS_46, tyA_23, tyS_23, tyA_62, tyS_62] | (with_reducible refine aIf_split (fun _ => ?_) (fun _ => ?_)) | (with_reducible refine aSel_split (fun _ => ?_) (fun _ => ?_)) | (with_reducible refine aGd_split (fun _ => ?_) (fun _ => ?_)) | (with_reducible refine aDraw_quiet (by kernel_rfl) ?_) | ((with_reducible apply callV); exact (hK)) | ((with_reducible apply callD); exact (hK)) | (((with_reducible apply callT); exact hS; exact (.inr (by simp [AV.plain, AV.plainL]))))))
    all_goals exact gives_tree (by first | rfl | simp [AV.ren, AV.renL])
  | false =>
    rw [hk] at hK
    have hz : zholdsO l z c s = none := by unfold zholdsO; rw [if_neg (by simp [hk])]
    rw [hz]
    (repeat' (first | simp (maxSteps := 5000000) (implicitDefEqProofs := false) only [ruA, ruB, aEv, aTake, aLoad, aField, aIndex, aLen, aBin, bin2, aUn, un1, aExtract, aConv, ASt.get, aget, ASt.put, aStore, aBox, aAppend, aBuildSlice, aMake, aBuild, aFill, oneParts, allC, aBinS, yv, aCells, oneC, oneCL, treeC, treeL, aLit, aDst, aSrc, appTab, Value.cells, Value.oneCell', envOf, aResL, aOne, ↓reduceIte, reduceCtorEq, forall_const, Nat.reduceLT, Nat.reduceEqDiff, Nat.reduceAdd, Nat.reduceMul, Nat.reduceSub, Nat.reduceLeDiff, Nat.reduceBEq, eq_self, implies_true, ne_eq, dref, dref1, dref2, aExecS, aStoreB, aTakes, aTakeE, aElder, aFrom, aFresh, isLoad, aBuildSlice1, frzs, frz1, ownIds, AV.frz, AV.frzL, frzEnv, AV.shift, AV.shiftL, aFieldV, aSliceW, aSliceO, aSlice, aSliceR, aSliceS, aBd, aMax, frzAVs, frzAV, frzTab, AObj.frz, aMM, aNilS, aMay, tyA_46, tyS_46, tyA_23, tyS_23, tyA_62, tyS_62] | (with_reducible refine aIf_split (fun _ => ?_) (fun _ => ?_)) | (with_reducible refine aSel_split (fun _ => ?_) (fun _ => ?_)) | (with_reducible refine aGd_split (fun _ => ?_) (fun _ => ?_)) | (with_reducible refine aDraw_quiet (by kernel_rfl) ?_) | ((with_reducible apply callV); exact (hK)) | ((with_reducible apply callD); exact (hK))))
    all_goals exact gives_tree (by first | rfl | simp [AV.ren, AV.renL, optB, optE])
end
section
open Go.RowKit
theorem below_at {c : List Int} (hc : Up c) {n : Int} {q : Nat} (hq : q < c.length) (h : c[q] = n) : lessN c n = q := by
  have hp := List.pairwise_iff_getElem.1 hc
  exact (search_up c n hc q (by omega) (fun h0 => by rw [← h]; exact hp (q - 1) q (by omega) hq (by omega)) (fun _ => by omega)).1
theorem hit_ref {c : List Int} (hc : Up c) (a n : Int) (x : Cls) : hitP c a n x = ((a != -1 && hasB x.attrs a) || (a == -1 && (decide (0 ≤ x.const) && decide (x.const < (c.length : Int)) && (c.getD x.const.toNat 0 == n)))) := by
  have key : (decide (n ∈ c) && x.const == (lessN c n : Int)) = (decide (0 ≤ x.const) && decide (x.const < (c.length : Int)) && (c.getD x.const.toNat 0 == n)) := by
    rw [Bool.eq_iff_iff]
    simp only [Bool.and_eq_true, decide_eq_true_eq, beq_iff_eq]
    constructor
    · rintro ⟨h1, h2⟩
      obtain ⟨i, hi, he⟩ := List.getElem_of_mem h1
      rw [below_at hc hi he] at h2
      rw [h2]
      refine ⟨⟨by omega, by omega⟩, ?_⟩
      rw [Int.toNat_natCast, List.getD_eq_getElem?_getD, List.getElem?_eq_getElem hi]
      exact he
    · rintro ⟨⟨h1, h2⟩, h3⟩
      obtain ⟨q, hq⟩ : ∃ q : Nat, x.const = (q : Int) := ⟨x.const.toNat, by omega⟩
      rw [hq] at h2 h3 ⊢
      have hql : q < c.length := by omega
      rw [Int.toNat_natCast, List.getD_eq_getElem?_getD, List.getElem?_eq_getElem hql] at h3
      have h3 : c[q] = n := h3
      exact ⟨h3 ▸ List.getElem_mem hql, by rw [below_at hc hql h3]⟩
  unfold hitP
  rw [Bool.and_assoc, key]
set_option maxRecDepth 100000 in
set_option maxHeartbeats 8000000 in
theorem placeR_A (z : Zn) (consts : List Int) (a n : Int) (h1 : z.cls.length ≤ 1000000) (h2 : consts.length ≤ 1000) (ho : ∀ x ∈ z.cls, ok64 x.attrs) : ADet Tryz.prog 21 [.agg (eZn z), sI consts, .agg [eI a, eI n]] (val (.int .i64 (placeM z consts a n))) := by
  refine adet_of_code mixedT Tryz.func21 rfl (by decide) Tryz.ntmps21 Tryz.results21 rfl (val_ok _) ?_
  have hlen := sortR_len consts
  have hup := (sortR_up consts).1
  unfold placeM
  have hS := refSorted_A consts h2
  obtain ⟨c, hc⟩ : ∃ c, sortR consts = c := ⟨_, rfl⟩
  rw [hc] at hS hlen hup ⊢
  obtain ⟨p, hp⟩ : ∃ p, hitP c a n = p := ⟨_, rfl⟩
  rw [hp]
  (repeat' (first | simp (maxSteps := 5000000) (implicitDefEqProofs := false) only [ruA, ruB, aEv, aTake, aLoad, aField, aIndex, aLen, aBin, bin2, aUn, un1, aExtract, aConv, ASt.get, aget, ASt.put, aStore, aBox, aAppend, aBuildSlice, aMake, aBuild, aFill, oneParts, allC, aBinS, yv, aCells, oneC, oneCL, treeC, treeL, aLit, aDst, aSrc, appTab, Value.cells, Value.oneCell', envOf, aResL, aOne, ↓reduceIte, reduceCtorEq, forall_const, Nat.reduceLT, Nat.reduceEqDiff, Nat.reduceAdd, Nat.reduceMul, Nat.reduceSub, Nat.reduceLeDiff, Nat.reduceBEq, eq_self, implies_true, ne_eq, dref, dref1, dref2, aExecS, aStoreB, aTakes, aTakeE, aElder, aFrom, aFresh, isLoad, aBuildSlice1, frzs, frz1, ownIds, AV.frz, AV.frzL, frzEnv, AV.shift, AV.shiftL, aFieldV, aSliceW, aSliceO, aSlice, aSliceR, aSliceS, aBd, aMax, frzAVs, frzAV, frzTab, AObj.frz, aMM, aNilS, aMay, tyF_46_0, tyA_43, tyS_43, tyE_43, tyK_43, tyK_3, tyA_87, tyS_87, tyZ_87, tyF_35_0, tyA_3, tyS_3, tyF_87_0, tyF_87_1, tyE_23, tyK_23, tyA_2, tyS_2, tyF_35_1, tyK_2] | (with_reducible refine aIf_split (fun _ => ?_) (fun _ => ?_)) | (with_reducible refine aSel_split (fun _ => ?_) (fun _ => ?_)) | (with_reducible refine aGd_split (fun _ => ?_) (fun _ => ?_)) | (with_reducible refine aDraw_quiet (by kernel_rfl) ?_) | ((with_reducible apply callT); exact (hS); exact (.inl (by simp [roL, roA, treeL, treeC])))))
  refine aLoop_of (fun st => ∃ k : Nat, k ≤ z.cls.length ∧ (∀ i (h : i < z.cls.length), i < k → p z.cls[i] = false) ∧ st = ⟨61, [(3, .op 0 0 0), (5, .op 1 0 0), (7, sI c), (8, eI (k : Int))], [(0, some (.box 46 (eZn z))), (1, some (.box 35 [eI a, eI n]))], 2⟩) (fun st => z.cls.length - slotN st 8) ⟨_, (weak_cut1 (by (first | ((simp only [envIn, tabIn, envLt, tabLt, AObj.lt, AV.lt, AV.ltL, ruW, ASt.get, aget, ASt.put, ↓reduceIte, reduceCtorEq, Nat.reduceLT, Nat.reduceEqDiff, Nat.reduceAdd, Nat.reduceLeDiff, eq_self, implies_true]) <;> (repeat' apply And.intro) <;> first | (rw [wrapK (by omega)]; done) | (simp; done) | omega) | fail))), 0, Nat.zero_le _, fun i _ h => by omega, rfl⟩ ?_
  rintro _ ⟨k, hk, hn, rfl⟩
  by_cases hlt : k < z.cls.length
  · have hh := hasR_A z.cls[k].attrs a (ho _ (List.getElem_mem hlt))
    have hP := hit_ref hup a n z.cls[k]
    rw [hp] at hP
    obtain ⟨x, hx⟩ : ∃ x, z.cls[k] = x := ⟨_, rfl⟩
    have hyes : p x = true → fstI p z.cls = (k : Int) := fun h => fstI_at hlt (by rw [hx]; exact h) fun i hi => hn i (by omega) hi
    have hno : p x = false → ∀ i (h : i < z.cls.length), i < k + 1 → p z.cls[i] = false := fun h i hi h2 => by
      rcases Nat.lt_or_ge i k with h3 | h3
      · exact hn i hi h3
      · obtain rfl : i = k := by omega
        rw [hx]
        exact h
    rw [hx] at hh hP
    obtain ⟨xa, xc⟩ := x
    by_cases hq : 0 ≤ xc ∧ xc < (c.length : Int)
    · obtain ⟨q, rfl⟩ : ∃ q : Nat, xc = (q : Int) := ⟨xc.toNat, by omega⟩
      have hql : q < c.length := by omega
      have hcq : c.getD q 0 = c[q] := by rw [List.getD_eq_getElem?_getD, List.getElem?_eq_getElem hql]; rfl
      (repeat' (first | simp (maxSteps := 5000000) (implicitDefEqProofs := false) only [ruA, ruB, aEv, aTake, aLoad, aField, aIndex, aLen, aBin, bin2, aUn, un1, aExtract, aConv, ASt.get, aget, ASt.put, aStore, aBox, aAppend, aBuildSlice, aMake, aBuild, aFill, oneParts, allC, aBinS, yv, aCells, oneC, oneCL, treeC, treeL, aLit, aDst, aSrc, appTab, Value.cells, Value.oneCell', envOf, aResL, aOne, ↓reduceIte, reduceCtorEq, forall_const, Nat.reduceLT, Nat.reduceEqDiff, Nat.reduceAdd, Nat.reduceMul, Nat.reduceSub, Nat.reduceLeDiff, Nat.reduceBEq, eq_self, implies_true, ne_eq, dref, dref1, dref2, aExecS, aStoreB, aTakes, aTakeE, aElder, aFrom, aFresh, isLoad, aBuildSlice1, frzs, frz1, ownIds, AV.frz, AV.frzL, frzEnv, AV.shift, AV.shiftL, aFieldV, aSliceW, aSliceO, aSlice, aSliceR, aSliceS, aBd, aMax, frzAVs, frzAV, frzTab, AObj.frz, aMM, aNilS, aMay, tyF_46_0, tyA_43, tyS_43, tyE_43, tyK_43, tyK_3, tyA_87, tyS_87, tyZ_87, tyF_35_0, tyA_3, tyS_3, tyF_87_0, tyF_87_1, tyE_23, tyK_23, tyA_2, tyS_2, tyF_35_1, tyK_2, row_at, hlt, hx, hql] | (with_reducible refine aIf_split (fun _ => ?_) (fun _ => ?_)) | (with_reducible refine aSel_split (fun _ => ?_) (fun _ => ?_)) | (with_reducible refine aGd_split (fun _ => ?_) (fun _ => ?_)) | (with_reducible refine aDraw_quiet (by kernel_rfl) ?_) | ((with_reducible apply callV); exact (hh)) | ((with_reducible apply callD); exact (hh))))
      all_goals first
        | (rw [hyes (by rw [hP]; clear hn hno hyes hP; simp_all)]; done)
        | exact roundI (weak_ren1 [0, 1] ⟨(by decide), (by (first | ((simp only [envInR, tabInR, envLt, tabLt, AObj.lt, AV.lt, AV.ltL, AV.ren, AV.renL, AObj.ren, List.getD_cons_zero, List.getD_cons_succ, List.length_cons, List.length_nil, ruW, ASt.get, aget, ASt.put, ↓reduceIte, reduceCtorEq, Nat.reduceLT, Nat.reduceEqDiff, Nat.reduceAdd, Nat.reduceLeDiff, eq_self, implies_true]) <;> (repeat' apply And.intro) <;> first | (rw [wrapK (by omega)]; done) | (simp; done) | omega) | fail))⟩) ⟨k + 1, by omega, hno (by rw [hP]; clear hn hno hyes hP; simp_all), rfl⟩ (by simp only [slotN, ruW, ASt.get, aget, ASt.put, ↓reduceIte, reduceCtorEq, Nat.reduceLT, Nat.reduceEqDiff, Nat.reduceAdd, Nat.reduceLeDiff, eq_self, implies_true]; omega)
        | (exfalso; simp at *; omega)
        | trace_state
    · have hg : (decide (0 ≤ xc) && decide (xc < (c.length : Int))) = false := by
        rw [Bool.eq_false_iff]
        intro h
        exact hq (by simpa using h)
      have hP2 : p ⟨xa, xc⟩ = (a != -1 && hasB xa a) := by
        rw [hP]
        simp only [hg, Bool.false_and, Bool.and_false, Bool.or_false]
      clear hP
      (repeat' (first | simp (maxSteps := 5000000) (implicitDefEqProofs := false) only [ruA, ruB, aEv, aTake, aLoad, aField, aIndex, aLen, aBin, bin2, aUn, un1, aExtract, aConv, ASt.get, aget, ASt.put, aStore, aBox, aAppend, aBuildSlice, aMake, aBuild, aFill, oneParts, allC, aBinS, yv, aCells, oneC, oneCL, treeC, treeL, aLit, aDst, aSrc, appTab, Value.cells, Value.oneCell', envOf, aResL, aOne, ↓reduceIte, reduceCtorEq, forall_const, Nat.reduceLT, Nat.reduceEqDiff, Nat.reduceAdd, Nat.reduceMul, Nat.reduceSub, Nat.reduceLeDiff, Nat.reduceBEq, eq_self, implies_true, ne_eq, dref, dref1, dref2, aExecS, aStoreB, aTakes, aTakeE, aElder, aFrom, aFresh, isLoad, aBuildSlice1, frzs, frz1, ownIds, AV.frz, AV.frzL, frzEnv, AV.shift, AV.shiftL, aFieldV, aSliceW, aSliceO, aSlice, aSliceR, aSliceS, aBd, aMax, frzAVs, frzAV, frzTab, AObj.frz, aMM, aNilS, aMay, tyF_46_0, tyA_43, tyS_43, tyE_43, tyK_43, tyK_3, tyA_87, tyS_87, tyZ_87, tyF_35_0, tyA_3, tyS_3, tyF_87_0, tyF_87_1, tyE_23, tyK_23, tyA_2, tyS_2, tyF_35_1, tyK_2, row_at, hlt, hx] | (with_reducible refine aIf_split (fun _ => ?_) (fun _ => ?_)) | (with_reducible refine aSel_split (fun _ => ?_) (fun _ => ?_)) | (with_reducible refine aGd_split (fun _ => ?_) (fun _ => ?_)) | (with_reducible refine aDraw_quiet (by kernel_rfl) ?_) | ((with_reducible apply callV); exact (hh)) | ((with_reducible apply callD); exact (hh))))
      all_goals first
        | (rw [hyes (by rw [hP2]; clear hn hno hyes hP2; simp_all)]; done)
        | exact roundI (weak_ren1 [0, 1] ⟨(by decide), (by (first | ((simp only [envInR, tabInR, envLt, tabLt, AObj.lt, AV.lt, AV.ltL, AV.ren, AV.renL, AObj.ren, List.getD_cons_zero, List.getD_cons_succ, List.length_cons, List.length_nil, ruW, ASt.get, aget, ASt.put, ↓reduceIte, reduceCtorEq, Nat.reduceLT, Nat.reduceEqDiff, Nat.reduceAdd, Nat.reduceLeDiff, eq_self, implies_true]) <;> (repeat' apply And.intro) <;> first | (rw [wrapK (by omega)]; done) | (simp; done) | omega) | fail))⟩) ⟨k + 1, by omega, hno (by rw [hP2]; clear hn hno hyes hP2; simp_all), rfl⟩ (by simp only [slotN, ruW, ASt.get, aget, ASt.put, ↓reduceIte, reduceCtorEq, Nat.reduceLT, Nat.reduceEqDiff, Nat.reduceAdd, Nat.reduceLeDiff, eq_self, implies_true]; omega)
        | (exfalso; simp at *; omega)
        | trace_state
  · obtain rfl : k = z.cls.length := by omega
    (repeat' (first | simp (maxSteps := 5000000) (implicitDefEqProofs := false) only [ruA, ruB, aEv, aTake, aLoad, aField, aIndex, aLen, aBin, bin2, aUn, un1, aExtract, aConv, ASt.get, aget, ASt.put, aStore, aBox, aAppend, aBuildSlice, aMake, aBuild, aFill, oneParts, allC, aBinS, yv, aCells, oneC, oneCL, treeC, treeL, aLit, aDst, aSrc, appTab, Value.cells, Value.oneCell', envOf, aResL, aOne, ↓reduceIte, reduceCtorEq, forall_const, Nat.reduceLT, Nat.reduceEqDiff, Nat.reduceAdd, Nat.reduceMul, Nat.reduceSub, Nat.reduceLeDiff, Nat.reduceBEq, eq_self, implies_true, ne_eq, dref, dref1, dref2, aExecS, aStoreB, aTakes, aTakeE, aElder, aFrom, aFresh, isLoad, aBuildSlice1, frzs, frz1, ownIds, AV.frz, AV.frzL, frzEnv, AV.shift, AV.shiftL, aFieldV, aSliceW, aSliceO, aSlice, aSliceR, aSliceS, aBd, aMax, frzAVs, frzAV, frzTab, AObj.frz, aMM, aNilS, aMay, tyF_46_0, tyA_43, tyS_43, tyE_43, tyK_43, tyK_3, tyA_87, tyS_87, tyZ_87, tyF_35_0, tyA_3, tyS_3, tyF_87_0, tyF_87_1, tyE_23, tyK_23, tyA_2, tyS_2, tyF_35_1, tyK_2, hlt] | (with_reducible refine aIf_split (fun _ => ?_) (fun _ => ?_)) | (with_reducible refine aSel_split (fun _ => ?_) (fun _ => ?_)) | (with_reducible refine aGd_split (fun _ => ?_) (fun _ => ?_)) | (with_reducible refine aDraw_quiet (by kernel_rfl) ?_)))
    rw [fstI_none fun x hx => by obtain ⟨i, hi, rfl⟩ := List.getElem_of_mem hx; exact hn i hi hi]
set_option maxRecDepth 100000 in
set_option maxHeartbeats 8000000 in
theorem knowsR_A (l : List Inst) (z : Zn) (c : List Int) (hl : l.length ≤ 1000000) (h1 : z.cls.length ≤ 1000000) (h2 : c.length ≤ 1000) (ho : ∀ x ∈ z.cls, ok64 x.attrs) : ADet Tryz.prog 20 [sInsts l, .agg (eZn z), sI c] (val (.bool (knowsM l z c))) := by
  refine adet_of_code mixedT Tryz.func20 rfl (by decide) Tryz.ntmps20 Tryz.results20 rfl (val_ok _) ?_
  unfold knowsM
  (repeat' (first | simp (maxSteps := 5000000) (implicitDefEqProofs := false) only [ruA, ruB, aEv, aTake, aLoad, aField, aIndex, aLen, aBin, bin2, aUn, un1, aExtract, aConv, ASt.get, aget, ASt.put, aStore, aBox, aAppend, aBuildSlice, aMake, aBuild, aFill, oneParts, allC, aBinS, yv, aCells, oneC, oneCL, treeC, treeL, aLit, aDst, aSrc, appTab, Value.cells, Value.oneCell', envOf, aResL, aOne, ↓reduceIte, reduceCtorEq, forall_const, Nat.reduceLT, Nat.reduceEqDiff, Nat.reduceAdd, Nat.reduceMul, Nat.reduceSub, Nat.reduceLeDiff, Nat.reduceBEq, eq_self, implies_true, ne_eq, dref, dref1, dref2, aExecS, aStoreB, aTakes, aTakeE, aElder, aFrom, aFresh, isLoad, aBuildSlice1, frzs, frz1, ownIds, AV.frz, AV.frzL, frzEnv, AV.shift, AV.shiftL, aFieldV, aSliceW, aSliceO, aSlice, aSliceR, aSliceS, aBd, aMax, frzAVs, frzAV, frzTab, AObj.frz, aMM, aNilS, aMay, tyE_53, tyK_53, tyK_3, tyF_37_0, tyA_3, tyS_3, tyA_46, tyS_46, tyF_37_1, tyA_35, tyS_35, tyF_37_2] | (with_reducible refine aIf_split (fun _ => ?_) (fun _ => ?_)) | (with_reducible refine aSel_split (fun _ => ?_) (fun _ => ?_)) | (with_reducible refine aGd_split (fun _ => ?_) (fun _ => ?_))))
  refine aLoop_of (fun st => ∃ k : Nat, k ≤ l.length ∧ (∀ i (h : i < l.length), i < k → lostB z c l[i] = false) ∧ st = ⟨50, [(0, sInsts l), (2, sI c), (4, .op 0 0 0), (7, eI (k : Int))], [(0, some (.box 46 (eZn z)))], 1⟩) (fun st => l.length - slotN st 7) ⟨_, (weak_cut1 (by (first | ((simp only [envIn, tabIn, envLt, tabLt, AObj.lt, AV.lt, AV.ltL, ruW, ASt.get, aget, ASt.put, ↓reduceIte, reduceCtorEq, Nat.reduceLT, Nat.reduceEqDiff, Nat.reduceAdd, Nat.reduceLeDiff, eq_self, implies_true]) <;> (repeat' apply And.intro) <;> first | (rw [wrapK (by omega)]; done) | (simp; done) | omega) | fail))), 0, Nat.zero_le _, fun i _ h => by omega, rfl⟩ ?_
  rintro _ ⟨k, hk, hn, rfl⟩
  by_cases hlt : k < l.length
  · obtain ⟨x, hx⟩ : ∃ x, l[k] = x := ⟨_, rfl⟩
    have hL := placeR_A z c x.la x.ln h1 h2 ho
    have hR := placeR_A z c x.ra x.rn h1 h2 ho
    have hyes : lostB z c x = true → (!l.any (lostB z c)) = false := fun h => by
      have : l.any (lostB z c) = true := List.any_eq_true.2 ⟨_, List.getElem_mem hlt, by rw [hx]; exact h⟩
      rw [this]
      rfl
    have hno : lostB z c x = false → ∀ i (h : i < l.length), i < k + 1 → lostB z c l[i] = false := fun h i hi h2 => by
      rcases Nat.lt_or_ge i k with h3 | h3
      · exact hn i hi h3
      · obtain rfl : i = k := by omega
        rw [hx]
        exact h
    (repeat' (first | simp (maxSteps := 5000000) (implicitDefEqProofs := false) only [ruA, ruB, aEv, aTake, aLoad, aField, aIndex, aLen, aBin, bin2, aUn, un1, aExtract, aConv, ASt.get, aget, ASt.put, aStore, aBox, aAppend, aBuildSlice, aMake, aBuild, aFill, oneParts, allC, aBinS, yv, aCells, oneC, oneCL, treeC, treeL, aLit, aDst, aSrc, appTab, Value.cells, Value.oneCell', envOf, aResL, aOne, ↓reduceIte, reduceCtorEq, forall_const, Nat.reduceLT, Nat.reduceEqDiff, Nat.reduceAdd, Nat.reduceMul, Nat.reduceSub, Nat.reduceLeDiff, Nat.reduceBEq, eq_self, implies_true, ne_eq, dref, dref1, dref2, aExecS, aStoreB, aTakes, aTakeE, aElder, aFrom, aFresh, isLoad, aBuildSlice1, frzs, frz1, ownIds, AV.frz, AV.frzL, frzEnv, AV.shift, AV.shiftL, aFieldV, aSliceW, aSliceO, aSlice, aSliceR, aSliceS, aBd, aMax, frzAVs, frzAV, frzTab, AObj.frz, aMM, aNilS, aMay, tyE_53, tyK_53, tyK_3, tyF_37_0, tyA_3, tyS_3, tyA_46, tyS_46, tyF_37_1, tyA_35, tyS_35, tyF_37_2, row_at, hlt, hx] | (with_reducible refine aIf_split (fun _ => ?_) (fun _ => ?_)) | (with_reducible refine aSel_split (fun _ => ?_) (fun _ => ?_)) | (with_reducible refine aGd_split (fun _ => ?_) (fun _ => ?_)) | (with_reducible refine aDraw_quiet (by kernel_rfl) ?_) | ((with_reducible apply callV); exact (hL)) | ((with_reducible apply callD); exact (hL)) | ((with_reducible apply callV); exact (hR)) | ((with_reducible apply callD); exact (hR))))
    all_goals first
      | (rw [hyes (by clear hn hno hyes hL hR; simp_all [lostB, isCmp])]; done)
      | exact roundI (weak_cut1 (by (first | ((simp only [envIn, tabIn, envLt, tabLt, AObj.lt, AV.lt, AV.ltL, ruW, ASt.get, aget, ASt.put, ↓reduceIte, reduceCtorEq, Nat.reduceLT, Nat.reduceEqDiff, Nat.reduceAdd, Nat.reduceLeDiff, eq_self, implies_true]) <;> (repeat' apply And.intro) <;> first | (rw [wrapK (by omega)]; done) | (simp; done) | omega) | fail))) ⟨k + 1, by omega, hno (by clear hn hno hyes hL hR; simp_all [lostB, isCmp]; try (intros; omega)), rfl⟩ (by simp only [slotN, ruW, ASt.get, aget, ASt.put, ↓reduceIte, reduceCtorEq, Nat.reduceLT, Nat.reduceEqDiff, Nat.reduceAdd, Nat.reduceLeDiff, eq_self, implies_true]; omega)
      | (exfalso; simp at *; omega)
      | trace_state
  · obtain rfl : k = l.length := by omega
    have : l.any (lostB z c) = false := by
      rw [List.any_eq_false]
      intro x hx
      obtain ⟨i, hi, rfl⟩ := List.getElem_of_mem hx
      rw [hn i hi hi]
      simp
    (repeat' (first | simp (maxSteps := 5000000) (implicitDefEqProofs := false) only [ruA, ruB, aEv, aTake, aLoad, aField, aIndex, aLen, aBin, bin2, aUn, un1, aExtract, aConv, ASt.get, aget, ASt.put, aStore, aBox, aAppend, aBuildSlice, aMake, aBuild, aFill, oneParts, allC, aBinS, yv, aCells, oneC, oneCL, treeC, treeL, aLit, aDst, aSrc, appTab, Value.cells, Value.oneCell', envOf, aResL, aOne, ↓reduceIte, reduceCtorEq, forall_const, Nat.reduceLT, Nat.reduceEqDiff, Nat.reduceAdd, Nat.reduceMul, Nat.reduceSub, Nat.reduceLeDiff, Nat.reduceBEq, eq_self, implies_true, ne_eq, dref, dref1, dref2, aExecS, aStoreB, aTakes, aTakeE, aElder, aFrom, aFresh, isLoad, aBuildSlice1, frzs, frz1, ownIds, AV.frz, AV.frzL, frzEnv, AV.shift, AV.shiftL, aFieldV, aSliceW, aSliceO, aSlice, aSliceR, aSliceS, aBd, aMax, frzAVs, frzAV, frzTab, AObj.frz, aMM, aNilS, aMay, tyE_53, tyK_53, tyK_3, tyF_37_0, tyA_3, tyS_3, tyA_46, tyS_46, tyF_37_1, tyA_35, tyS_35, tyF_37_2, hlt, this, Bool.not_false] | (with_reducible refine aIf_split (fun _ => ?_) (fun _ => ?_)) | (with_reducible refine aSel_split (fun _ => ?_) (fun _ => ?_)) | (with_reducible refine aGd_split (fun _ => ?_) (fun _ => ?_)) | (with_reducible refine aDraw_quiet (by kernel_rfl) ?_)))
/-- an instruction with its values' places as numbers -/
def substM (z : Zn) (c : List Int) (x : Inst) : Inst := if isCmp x = true then ⟨x.op, -1, placeM z c x.la x.ln, -1, placeM z c x.ra x.rn, x.n, x.u⟩ else x
theorem subst_op (z : Zn) (c : List Int) (x : Inst) : (substM z c x).op = x.op := by unfold substM; split <;> rfl
theorem step_subst (z : Zn) (c : List Int) (vals : List Int) (o d : Int) (x : Inst) (r : List Bool) (h : lostB z c x = false) : stepG (cmS vals) o d (substM z c x) r = stepG (fun x => some (cmpZ z c x.la x.ln x.ra x.rn)) o d x r := by
  by_cases hc : isCmp x = true
  · have h3 : 3 ≤ x.op ∧ x.op ≤ 8 := by simpa [isCmp] using hc
    have hp : ¬ placeM z c x.la x.ln < 0 ∧ ¬ placeM z c x.ra x.rn < 0 := by
      unfold lostB at h
      rw [hc] at h
      simpa using h
    unfold substM
    rw [if_pos hc]
    unfold stepG
    simp only [show ¬ (x.op = 1 ∨ x.op = 2) by omega, if_false, h3, and_self, if_true]
    have : cmS vals ⟨x.op, -1, placeM z c x.la x.ln, -1, placeM z c x.ra x.rn, x.n, x.u⟩ = some (cmpI (placeM z c x.la x.ln) (placeM z c x.ra x.rn)) := by
      simp [cmS, valO]
    rw [this]
    unfold cmpZ
    rw [if_neg (by omega)]
  · unfold substM
    rw [if_neg hc]
    have h3 : ¬ (3 ≤ x.op ∧ x.op ≤ 8) := by simpa [isCmp] using hc
    unfold stepG
    simp only [h3, if_false]
theorem run_subst (z : Zn) (c : List Int) (vals : List Int) (o d : Int) : ∀ (l : List Inst) (r : List Bool), (∀ x ∈ l, lostB z c x = false) → runG (cmS vals) o d (l.map (substM z c)) r = runG (fun x => some (cmpZ z c x.la x.ln x.ra x.rn)) o d l r
  | [], r, _ => rfl
  | x :: l, r, h => by
    rw [List.map_cons, runG, runG, step_subst z c vals o d x r (h x (List.mem_cons_self ..))]
    cases stepG (fun x => some (cmpZ z c x.la x.ln x.ra x.rn)) o d x r with
    | none => rfl
    | some r' => exact run_subst z c vals o d l r' fun y hy => h y (List.mem_cons_of_mem _ hy)
theorem holds_subst (z : Zn) (c : List Int) (s : St) (l : List Inst) (h : knowsM l z c = true) : holdsO (l.map (substM z c)) s = zholdsO l z c s := by
  have hl : ∀ x ∈ l, lostB z c x = false := by
    unfold knowsM at h
    simpa using h
  have ho : (l.map (substM z c)).map Inst.op = l.map Inst.op := by
    rw [List.map_map]
    exact List.map_congr_left fun x _ => subst_op z c x
  unfold zholdsO
  rw [if_pos h]
  unfold holdsO holdsG
  rw [ho, run_subst z c s.vals s.opn s.don l [] hl]
set_option maxRecDepth 100000 in
set_option maxHeartbeats 8000000 in
theorem zholdsR_A (l : List Inst) (z : Zn) (c : List Int) (s : St) (hl : l.length ≤ 900) (h1 : z.cls.length ≤ 1000000) (h2 : c.length ≤ 1000) (ho : ∀ x ∈ z.cls, ok64 x.attrs) (hop : ok64 s.opn) (hdo : ok64 s.don) : ADet Tryz.prog 13 [sInsts l, .agg (eZn z), sI c, .agg (eSt s)] ⟨.tup [eB (optB (zholdsO l z c s)), eI (optE (zholdsO l z c s))], [], 0⟩ := by
  have hok : (⟨.tup [eB (optB (zholdsO l z c s)), eI (optE (zholdsO l z c s))], [], 0⟩ : Res).Ok := ⟨fun id o h => (by cases h), by simp [AV.lt, AV.ltL]⟩
  refine adet_of_code mixedT Tryz.func13 rfl (by decide) Tryz.ntmps13 Tryz.results13 rfl (hok) ?_
  have hK := knowsR_A l z c (by omega) h1 h2 ho
  cases hk : knowsM l z c with
  | false =>
    rw [hk] at hK
    have hz : zholdsO l z c s = none := by unfold zholdsO; rw [if_neg (by simp [hk])]
    rw [hz]
    (repeat' (first | simp (maxSteps := 5000000) (implicitDefEqProofs := false) only [ruA, ruB, aEv, aTake, aLoad, aField, aIndex, aLen, aBin, bin2, aUn, un1, aExtract, aConv, ASt.get, aget, ASt.put, aStore, aBox, aAppend, aBuildSlice, aMake, aBuild, aFill, oneParts, allC, aBinS, yv, aCells, oneC, oneCL, treeC, treeL, aLit, aDst, aSrc, appTab, Value.cells, Value.oneCell', envOf, aResL, aOne, ↓reduceIte, reduceCtorEq, forall_const, Nat.reduceLT, Nat.reduceEqDiff, Nat.reduceAdd, Nat.reduceMul, Nat.reduceSub, Nat.reduceLeDiff, Nat.reduceBEq, eq_self, implies_true, ne_eq, dref, dref1, dref2, aExecS, aStoreB, aTakes, aTakeE, aElder, aFrom, aFresh, isLoad, aBuildSlice1, frzs, frz1, ownIds, AV.frz, AV.frzL, frzEnv, AV.shift, AV.shiftL, aFieldV, aSliceW, aSliceO, aSlice, aSliceR, aSliceS, aBd, aMax, frzAVs, frzAV, frzTab, AObj.frz, aMM, aNilS, aMay, tyA_46, tyS_46, tyE_53, tyK_53, tyK_3, tyA_37, tyS_37, tyZ_37, tyF_37_0, tyA_3, tyS_3, tyF_37_1, tyA_35, tyS_35, tyB_35, tyF_37_2, tyR_53, tyA_62, tyS_62] | (with_reducible refine aIf_split (fun _ => ?_) (fun _ => ?_)) | (with_reducible refine aSel_split (fun _ => ?_) (fun _ => ?_)) | (with_reducible refine aGd_split (fun _ => ?_) (fun _ => ?_)) | (with_reducible refine aDraw_quiet (by kernel_rfl) ?_) | ((with_reducible apply callV); exact (hK)) | ((with_reducible apply callD); exact (hK))))
    all_goals exact gives_tree (by first | rfl | simp [AV.ren, AV.renL, optB, optE])
  | true =>
    rw [hk] at hK
    (repeat' (first | simp (maxSteps := 5000000) (implicitDefEqProofs := false) only [ruA, ruB, aEv, aTake, aLoad, aField, aIndex, aLen, aBin, bin2, aUn, un1, aExtract, aConv, ASt.get, aget, ASt.put, aStore, aBox, aAppend, aBuildSlice, aMake, aBuild, aFill, oneParts, allC, aBinS, yv, aCells, oneC, oneCL, treeC, treeL, aLit, aDst, aSrc, appTab, Value.cells, Value.oneCell', envOf, aResL, aOne, ↓reduceIte, reduceCtorEq, forall_const, Nat.reduceLT, Nat.reduceEqDiff, Nat.reduceAdd, Nat.reduceMul, Nat.reduceSub, Nat.reduceLeDiff, Nat.reduceBEq, eq_self, implies_true, ne_eq, dref, dref1, dref2, aExecS, aStoreB, aTakes, aTakeE, aElder, aFrom, aFresh, isLoad, aBuildSlice1, frzs, frz1, ownIds, AV.frz, AV.frzL, frzEnv, AV.shift, AV.shiftL, aFieldV, aSliceW, aSliceO, aSlice, aSliceR, aSliceS, aBd, aMax, frzAVs, frzAV, frzTab, AObj.frz, aMM, aNilS, aMay, tyA_46, tyS_46, tyE_53, tyK_53, tyK_3, tyA_37, tyS_37, tyZ_37, tyF_37_0, tyA_3, tyS_3, tyF_37_1, tyA_35, tyS_35, tyB_35, tyF_37_2, tyR_53, tyA_62, tyS_62] | (with_reducible refine aIf_split (fun _ => ?_) (fun _ => ?_)) | (with_reducible refine aSel_split (fun _ => ?_) (fun _ => ?_)) | (with_reducible refine aGd_split (fun _ => ?_) (fun _ => ?_)) | (with_reducible refine aDraw_quiet (by kernel_rfl) ?_) | ((with_reducible apply callV); exact (hK)) | ((with_reducible apply callD); exact (hK))))
    refine aLoop_of (fun st => ∃ k : Nat, k ≤ l.length ∧ st = ⟨59, [(0, sInsts l), (2, sI c), (5, .op 0 0 0), (7, .op 1 0 0), (10, .osl 2), (11, eI (k : Int))], [(0, some (.box 46 (eZn z))), (1, some (.box 62 (eSt s))), (2, some (.row 37 7 ((l.take k).map fun x => eInst (substM z c x))))], 3⟩) (fun st => l.length - slotN st 11) ⟨_, ((weak_nil 10 37 7 (by simp only [ruW, ASt.get, aget, ASt.put, ↓reduceIte, reduceCtorEq, Nat.reduceLT, Nat.reduceEqDiff, Nat.reduceAdd, Nat.reduceLeDiff, eq_self, implies_true, List.take_zero, List.map_nil])).trans (weak_ren1 [0, 1, 2] ⟨(by decide), (by (first | ((simp only [envInR, tabInR, envLt, tabLt, AObj.lt, AV.lt, AV.ltL, AV.ren, AV.renL, AObj.ren, List.getD_cons_zero, List.getD_cons_succ, List.length_cons, List.length_nil, ruW, ASt.get, aget, ASt.put, ↓reduceIte, reduceCtorEq, Nat.reduceLT, Nat.reduceEqDiff, Nat.reduceAdd, Nat.reduceLeDiff, eq_self, implies_true, List.take_zero, List.map_nil]) <;> (repeat' apply And.intro) <;> first | (rw [wrapK (by omega)]; done) | (simp; done) | omega) | fail))⟩)), 0, Nat.zero_le _, rfl⟩ ?_
    rintro _ ⟨k, hk2, rfl⟩
    by_cases hlt : k < l.length
    · obtain ⟨x, hx⟩ : ∃ x, l[k] = x := ⟨_, rfl⟩
      have hL := placeR_A z c x.la x.ln h1 h2 ho
      have hR := placeR_A z c x.ra x.rn h1 h2 ho
      have hsn : (l.take (k + 1)).map (fun x => eInst (substM z c x)) = (l.take k).map (fun x => eInst (substM z c x)) ++ [eInst (substM z c x)] := by rw [take_snoc _ l hlt, hx]
      have htl : (l.take k).length ≤ 900 := by rw [List.length_take]; omega
      cases hc : isCmp x with
      | true =>
        have hs : substM z c x = ⟨x.op, -1, placeM z c x.la x.ln, -1, placeM z c x.ra x.rn, x.n, x.u⟩ := by unfold substM; rw [if_pos hc]
        rw [hs] at hsn
        have h3 : decide (3 ≤ x.op) = true ∧ decide (x.op ≤ 8) = true := by simpa [isCmp] using hc
        (repeat' (first | simp (maxSteps := 5000000) (implicitDefEqProofs := false) only [ruA, ruB, aEv, aTake, aLoad, aField, aIndex, aLen, aBin, bin2, aUn, un1, aExtract, aConv, ASt.get, aget, ASt.put, aStore, aBox, aAppend, aBuildSlice, aMake, aBuild, aFill, oneParts, allC, aBinS, yv, aCells, oneC, oneCL, treeC, treeL, aLit, aDst, aSrc, appTab, Value.cells, Value.oneCell', envOf, aResL, aOne, ↓reduceIte, reduceCtorEq, forall_const, Nat.reduceLT, Nat.reduceEqDiff, Nat.reduceAdd, Nat.reduceMul, Nat.reduceSub, Nat.reduceLeDiff, Nat.reduceBEq, eq_self, implies_true, ne_eq, dref, dref1, dref2, aExecS, aStoreB, aTakes, aTakeE, aElder, aFrom, aFresh, isLoad, aBuildSlice1, frzs, frz1, ownIds, AV.frz, AV.frzL, frzEnv, AV.shift, AV.shiftL, aFieldV, aSliceW, aSliceO, aSlice, aSliceR, aSliceS, aBd, aMax, frzAVs, frzAV, frzTab, AObj.frz, aMM, aNilS, aMay, tyA_46, tyS_46, tyE_53, tyK_53, tyK_3, tyA_37, tyS_37, tyZ_37, tyF_37_0, tyA_3, tyS_3, tyF_37_1, tyA_35, tyS_35, tyB_35, tyF_37_2, tyR_53, tyA_62, tyS_62, row_at, hlt, hx, h3.1, h3.2] | (with_reducible refine aIf_split (fun _ => ?_) (fun _ => ?_)) | (with_reducible refine aSel_split (fun _ => ?_) (fun _ => ?_)) | (with_reducible refine aGd_split (fun _ => ?_) (fun _ => ?_)) | (with_reducible refine aDraw_quiet (by kernel_rfl) ?_) | ((with_reducible apply callV); exact (hL)) | ((with_reducible apply callD); exact (hL)) | ((with_reducible apply callV); exact (hR)) | ((with_reducible apply callD); exact (hR)) | (with_reducible apply And.intro)))
        all_goals first
          | rfl
          | omega
          | exact roundI (weak_ren1 [0, 1, 5] ⟨(by decide), (by (first | ((simp only [envInR, tabInR, envLt, tabLt, AObj.lt, AV.lt, AV.ltL, AV.ren, AV.renL, AObj.ren, List.getD_cons_zero, List.getD_cons_succ, List.length_cons, List.length_nil, ruW, ASt.get, aget, ASt.put, ↓reduceIte, reduceCtorEq, Nat.reduceLT, Nat.reduceEqDiff, Nat.reduceAdd, Nat.reduceLeDiff, eq_self, implies_true, hsn]) <;> (repeat' apply And.intro) <;> first | (rw [wrapK (by omega)]; done) | (simp; done) | omega) | fail))⟩) ⟨k + 1, by omega, rfl⟩ (by simp only [slotN, ruW, ASt.get, aget, ASt.put, ↓reduceIte, reduceCtorEq, Nat.reduceLT, Nat.reduceEqDiff, Nat.reduceAdd, Nat.reduceLeDiff, eq_self, implies_true]; omega)
          | trace_state
      | false =>
        have hs : substM z c x = x := by unfold substM; rw [if_neg (by simp [hc])]
        rw [hs] at hsn
        (repeat' (first | simp (maxSteps := 5000000) (implicitDefEqProofs := false) only [ruA, ruB, aEv, aTake, aLoad, aField, aIndex, aLen, aBin, bin2, aUn, un1, aExtract, aConv, ASt.get, aget, ASt.put, aStore, aBox, aAppend, aBuildSlice, aMake, aBuild, aFill, oneParts, allC, aBinS, yv, aCells, oneC, oneCL, treeC, treeL, aLit, aDst, aSrc, appTab, Value.cells, Value.oneCell', envOf, aResL, aOne, ↓reduceIte, reduceCtorEq, forall_const, Nat.reduceLT, Nat.reduceEqDiff, Nat.reduceAdd, Nat.reduceMul, Nat.reduceSub, Nat.reduceLeDiff, Nat.reduceBEq, eq_self, implies_true, ne_eq, dref, dref1, dref2, aExecS, aStoreB, aTakes, aTakeE, aElder, aFrom, aFresh, isLoad, aBuildSlice1, frzs, frz1, ownIds, AV.frz, AV.frzL, frzEnv, AV.shift, AV.shiftL, aFieldV, aSliceW, aSliceO, aSlice, aSliceR, aSliceS, aBd, aMax, frzAVs, frzAV, frzTab, AObj.frz, aMM, aNilS, aMay, tyA_46, tyS_46, tyE_53, tyK_53, tyK_3, tyA_37, tyS_37, tyZ_37, tyF_37_0, tyA_3, tyS_3, tyF_37_1, tyA_35, tyS_35, tyB_35, tyF_37_2, tyR_53, tyA_62, tyS_62, row_at, hlt, hx] | (with_reducible refine aIf_split (fun _ => ?_) (fun _ => ?_)) | (with_reducible refine aSel_split (fun _ => ?_) (fun _ => ?_)) | (with_reducible refine aGd_split (fun _ => ?_) (fun _ => ?_)) | (with_reducible refine aDraw_quiet (by kernel_rfl) ?_) | ((with_reducible apply callV); exact (hL)) | ((with_reducible apply callD); exact (hL)) | ((with_reducible apply callV); exact (hR)) | ((with_reducible apply callD); exact (hR)) | (with_reducible apply And.intro)))
        all_goals first
          | rfl
          | omega
          | (exfalso; simp_all [isCmp]; done)
          | (exfalso; simp_all [isCmp]; omega)
          | exact roundI (weak_ren1 [0, 1, 5] ⟨(by decide), (by (first | ((simp only [envInR, tabInR, envLt, tabLt, AObj.lt, AV.lt, AV.ltL, AV.ren, AV.renL, AObj.ren, List.getD_cons_zero, List.getD_cons_succ, List.length_cons, List.length_nil, ruW, ASt.get, aget, ASt.put, ↓reduceIte, reduceCtorEq, Nat.reduceLT, Nat.reduceEqDiff, Nat.reduceAdd, Nat.reduceLeDiff, eq_self, implies_true, hsn]) <;> (repeat' apply And.intro) <;> first | (rw [wrapK (by omega)]; done) | (simp; done) | omega) | fail))⟩) ⟨k + 1, by omega, rfl⟩ (by simp only [slotN, ruW, ASt.get, aget, ASt.put, ↓reduceIte, reduceCtorEq, Nat.reduceLT, Nat.reduceEqDiff, Nat.reduceAdd, Nat.reduceLeDiff, eq_self, implies_true]; omega)
          | trace_state
    · obtain rfl : k = l.length := by omega
      have hH := holds16_A (l.map (substM z c)) s (by simp; omega) hop hdo
      rw [holds_subst z c s l hk] at hH
      have em : (l.map (substM z c)).map eInst = l.map fun x => eInst (substM z c x) := by rw [List.map_map]; rfl
      simp only [sInsts, em] at hH
      (repeat' (first | simp (maxSteps := 5000000) (implicitDefEqProofs := false) only [ruA, ruB, aEv, aTake, aLoad, aField, aIndex, aLen, aBin, bin2, aUn, un1, aExtract, aConv, ASt.get, aget, ASt.put, aStore, aBox, aAppend, aBuildSlice, aMake, aBuild, aFill, oneParts, allC, aBinS, yv, aCells, oneC, oneCL, treeC, treeL, aLit, aDst, aSrc, appTab, Value.cells, Value.oneCell', envOf, aResL, aOne, ↓reduceIte, reduceCtorEq, forall_const, Nat.reduceLT, Nat.reduceEqDiff, Nat.reduceAdd, Nat.reduceMul, Nat.reduceSub, Nat.reduceLeDiff, Nat.reduceBEq, eq_self, implies_true, ne_eq, dref, dref1, dref2, aExecS, aStoreB, aTakes, aTakeE, aElder, aFrom, aFresh, isLoad, aBuildSlice1, frzs, frz1, ownIds, AV.frz, AV.frzL, frzEnv, AV.shift, AV.shiftL, aFieldV, aSliceW, aSliceO, aSlice, aSliceR, aSliceS, aBd, aMax, frzAVs, frzAV, frzTab, AObj.frz, aMM, aNilS, aMay, tyA_46, tyS_46, tyE_53, tyK_53, tyK_3, tyA_37, tyS_37, tyZ_37, tyF_37_0, tyA_3, tyS_3, tyF_37_1, tyA_35, tyS_35, tyB_35, tyF_37_2, tyR_53, tyA_62, tyS_62, hlt, List.take_length] | (with_reducible refine aIf_split (fun _ => ?_) (fun _ => ?_)) | (with_reducible refine aSel_split (fun _ => ?_) (fun _ => ?_)) | (with_reducible refine aGd_split (fun _ => ?_) (fun _ => ?_))))
      refine callT (r := .tup [eB (optB (zholdsO l z c s)), eI (optE (zholdsO l z c s))]) ?_ (.inr (by simp [AV.plain, AV.plainL])) ?_
      · simp (maxSteps := 5000000) (implicitDefEqProofs := false) only [ruA, ruB, aEv, aTake, aLoad, aField, aIndex, aLen, aBin, bin2, aUn, un1, aExtract, aConv, ASt.get, aget, ASt.put, aStore, aBox, aAppend, aBuildSlice, aMake, aBuild, aFill, oneParts, allC, aBinS, yv, aCells, oneC, oneCL, treeC, treeL, aLit, aDst, aSrc, appTab, Value.cells, Value.oneCell', envOf, aResL, aOne, ↓reduceIte, reduceCtorEq, forall_const, Nat.reduceLT, Nat.reduceEqDiff, Nat.reduceAdd, Nat.reduceMul, Nat.reduceSub, Nat.reduceLeDiff, Nat.reduceBEq, eq_self, implies_true, ne_eq, dref, dref1, dref2, aExecS, aStoreB, aTakes, aTakeE, aElder, aFrom, aFresh, isLoad, aBuildSlice1, frzs, frz1, ownIds, AV.frz, AV.frzL, frzEnv, AV.shift, AV.shiftL, aFieldV, aSliceW, aSliceO, aSlice, aSliceR, aSliceS, aBd, aMax, frzAVs, frzAV, frzTab, AObj.frz, aMM, aNilS, aMay, tyA_46, tyS_46, tyE_53, tyK_53, tyK_3, tyA_37, tyS_37, tyZ_37, tyF_37_0, tyA_3, tyS_3, tyF_37_1, tyA_35, tyS_35, tyB_35, tyF_37_2, tyR_53, tyA_62, tyS_62]
        exact hH
      · (repeat' (first | simp (maxSteps := 5000000) (implicitDefEqProofs := false) only [ruA, ruB, aEv, aTake, aLoad, aField, aIndex, aLen, aBin, bin2, aUn, un1, aExtract, aConv, ASt.get, aget, ASt.put, aStore, aBox, aAppend, aBuildSlice, aMake, aBuild, aFill, oneParts, allC, aBinS, yv, aCells, oneC, oneCL, treeC, treeL, aLit, aDst, aSrc, appTab, Value.cells, Value.oneCell', envOf, aResL, aOne, ↓reduceIte, reduceCtorEq, forall_const, Nat.reduceLT, Nat.reduceEqDiff, Nat.reduceAdd, Nat.reduceMul, Nat.reduceSub, Nat.reduceLeDiff, Nat.reduceBEq, eq_self, implies_true, ne_eq, dref, dref1, dref2, aExecS, aStoreB, aTakes, aTakeE, aElder, aFrom, aFresh, isLoad, aBuildSlice1, frzs, frz1, ownIds, AV.frz, AV.frzL, frzEnv, AV.shift, AV.shiftL, aFieldV, aSliceW, aSliceO, aSlice, aSliceR, aSliceS, aBd, aMax, frzAVs, frzAV, frzTab, AObj.frz, aMM, aNilS, aMay, tyA_46, tyS_46, tyE_53, tyK_53, tyK_3, tyA_37, tyS_37, tyZ_37, tyF_37_0, tyA_3, tyS_3, tyF_37_1, tyA_35, tyS_35, tyB_35, tyF_37_2, tyR_53, tyA_62, tyS_62] | (with_reducible refine aIf_split (fun _ => ?_) (fun _ => ?_)) | (with_reducible refine aSel_split (fun _ => ?_) (fun _ => ?_)) | (with_reducible refine aGd_split (fun _ => ?_) (fun _ => ?_)) | (with_reducible refine aDraw_quiet (by kernel_rfl) ?_)))
        all_goals exact gives_tree (by first | rfl | simp [AV.ren, AV.renL])
end
end Go.Proofs.YtfeclebkaambhaaGreat
