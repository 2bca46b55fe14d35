/-
  Parts of the proof: W7, WU, WV, WX, EvOpen, CO, WDs.
-/
import Derived.Test.YtodbhccfajgekaaDoorSrd5
import Derived.Test.YtodbhccfajgekaaDoorProg
import Derived.Test.YtodbhccfajgekaaDoorTie
import Derived.Test.YtodbhccfajgekaaDoorCards
import Derived.LaidMore
import Derived.OpenShut
import Derived.Stop.Joined
import Derived.SevenTiedAt
import Derived.HandedShaped
import Derived.Shelf.Vars
import Derived.Lay
set_option linter.unusedVariables false
set_option linter.unusedSimpArgs false
namespace Go.Proofs.YtodbhccfajgekaaDoor
section
open Go.RowKit
theorem bs_beq (a b : ByteArray) : (a == b) = decide (a = b) := by
  obtain ⟨x⟩ := a
  obtain ⟨y⟩ := b
  show (x == y) = decide (ByteArray.mk x = ByteArray.mk y)
  by_cases h : x = y
  · subst h
    simp
  · simp [h]
def exM15 : Mod := ⟨[⟨#[97]⟩], [5], [], [], [], [⟨ByteArray.empty, 0, 0, [], 0⟩], [], [], [], []⟩
theorem itoa_dg {u : Nat} (h : u < 10) : Lib.itoa (u : Int) = [UInt8.ofNat (48 + u)] := by
  unfold Lib.itoa
  rw [if_neg (by omega), Int.toNat_natCast, Lib.decDigits, dif_pos h]
theorem ex15_text : stB (startS exM15) = ⟨#[49, 32, 53, 32, 48, 32, 48, 32, 49, 32, 48, 32, 49, 32, 48]⟩ := by
  have e0 := itoa_dg (u := 0) (by omega)
  have e1 := itoa_dg (u := 1) (by omega)
  have e5 := itoa_dg (u := 5) (by omega)
  have h : stNums (startS exM15) = [((1 : Nat) : Int), ((5 : Nat) : Int), ((0 : Nat) : Int), ((0 : Nat) : Int), ((1 : Nat) : Int), ((0 : Nat) : Int), ((1 : Nat) : Int), ((0 : Nat) : Int)] := rfl
  unfold stB stText
  rw [h]
  unfold numsT
  simp only [List.map_cons, List.map_nil, e0, e1, e5]
  rfl
theorem ex15_chk : chkS exM15 (startS exM15) = true := by kernel_rfl
set_option maxRecDepth 100000 in
set_option maxHeartbeats 8000000 in
theorem awake15_A : ADet Tryd.prog 9 [] (val (.bool true)) := by
  refine adet_of_sc Tryd.func9 rfl (by decide) Tryd.ntmps9 Tryd.results9 rfl (val_ok _) ?_
  have hS := start_A exM15 (by simp [exM15]) (by simp [exM15])
  have hT := text_A (startS exM15) (by simp [startS, exM15]) (by simp [startS, exM15]) (by simp [startS, exM15]) (by simp [startS, exM15, ok64]) (by simp [startS, ok64]) (by simp [startS, ok64]) (by simp [startS, exM15, ok64]) (by simp [startS, exM15, ok64])
  rw [ex15_text] at hT
  have hC := checkS_A exM15 (startS exM15) (by simp [exM15])
  rw [ex15_chk] at hC
  have fM : FitsA (.agg [.sl 1 [[eS ⟨#[97]⟩]], .sl 1 [[eI 5]], .c (.slice none 0 0), .c (.slice none 0 0), .c (.slice none 0 0), .sl 5 [[.c (.string ByteArray.empty), eI 0, eI 0, .c (.slice none 0 0), eI 0]], .c (.slice none 0 0), .c (.slice none 0 0), .c (.slice none 0 0), .c (.slice none 0 0)]) (.agg (eMod exM15)) := .agg ⟨.refl _, .refl _, .nil 1, .nil 2, .nil 2, .rows ⟨⟨.refl _, .refl _, .refl _, .nil 1, .refl _, trivial⟩, trivial⟩, .nil 3, .nil 5, .nil 2, .nil 2, trivial⟩
  have b1 : ((⟨#[49, 32, 53, 32, 48, 32, 48, 32, 49, 32, 48, 32, 49, 32, 48]⟩ : ByteArray) == (⟨#[49, 32, 53, 32, 48, 32, 48, 32, 49, 32, 48, 32, 49, 32, 48]⟩ : ByteArray)) = true := by rw [bs_beq]; simp
  have hS2 := hS.fits (args := [.agg [.sl 1 [[eS ⟨#[97]⟩]], .sl 1 [[eI 5]], .c (.slice none 0 0), .c (.slice none 0 0), .c (.slice none 0 0), .sl 5 [[.c (.string ByteArray.empty), eI 0, eI 0, .c (.slice none 0 0), eI 0]], .c (.slice none 0 0), .c (.slice none 0 0), .c (.slice none 0 0), .c (.slice none 0 0)]]) ⟨fM, trivial⟩
  have hC2 := hC.fits (args := [.agg [.sl 1 [[eS ⟨#[97]⟩]], .sl 1 [[eI 5]], .c (.slice none 0 0), .c (.slice none 0 0), .c (.slice none 0 0), .sl 5 [[.c (.string ByteArray.empty), eI 0, eI 0, .c (.slice none 0 0), eI 0]], .c (.slice none 0 0), .c (.slice none 0 0), .c (.slice none 0 0), .c (.slice none 0 0)], .agg (eSt (startS exM15))]) ⟨fM, .one (.refl _), trivial⟩
  have er : ∀ x : List AV, List.replicate (Int.toNat 1) x = [x] := fun _ => rfl
  refine sc_cut (fun st => st = ⟨16, [], [], 0⟩) (sc_of mixedT ?_) ?_
  · (repeat' (first | simp (maxSteps := 5000000) (implicitDefEqProofs := false) only [ruA, ruB, aEv, aTake, aLoad, aField, aIndex, aLen, aBin, bin2, aUn, un1, aExtract, aConv, ASt.get, aget, ASt.put, aStore, aBox, aAppend, aBuildSlice, aMake, aBuild, aFill, oneParts, allC, aBinS, yv, aCells, oneC, oneCL, treeC, treeL, aLit, aDst, aSrc, appTab, Value.cells, Value.oneCell', envOf, aResL, aOne, ↓reduceIte, reduceCtorEq, forall_const, Nat.reduceLT, Nat.reduceEqDiff, Nat.reduceAdd, Nat.reduceMul, Nat.reduceSub, Nat.reduceLeDiff, Nat.reduceBEq, eq_self, implies_true, ne_eq, dref, dref1, dref2, aExecS, aStoreB, aTakes, aTakeE, aElder, aFrom, aFresh, isLoad, aBuildSlice1, frzs, frz1, ownIds, AV.frz, AV.frzL, frzEnv, AV.shift, AV.shiftL, aFieldV, aSliceW, aSliceO, aSlice, aSliceR, aSliceS, aBd, aMax, frzAVs, frzAV, frzTab, AObj.frz, aMM, aNilS, aMay, tyR_22, tyR_23, tyR_26, tyZ_37, tyB_32, tyZ_32, tyS_32, tyA_32, tyK_9] | (with_reducible refine aIf_split (fun _ => ?_) (fun _ => ?_)) | (with_reducible refine aSel_split (fun _ => ?_) (fun _ => ?_)) | (with_reducible refine aGd_split (fun _ => ?_) (fun _ => ?_)) | (with_reducible refine aDraw_quiet (by kernel_rfl) ?_)))
    exact aTo_mk (weak_cut1 (by (first | ((simp only [envIn, tabIn, envLt, tabLt, AObj.lt, AV.lt, AV.ltL, ruW, ASt.get, aget, ASt.put, ↓reduceIte, reduceCtorEq, Nat.reduceLT, Nat.reduceEqDiff, Nat.reduceAdd, Nat.reduceLeDiff, eq_self, implies_true]) <;> (repeat' apply And.intro) <;> first | (rw [wrapK (by omega)]; done) | (simp; done) | omega) | fail))) rfl
  rintro _ rfl
  refine sc_cut (fun st => st = ⟨16, [(1, .op 3 0 0)], [(3, some (.box 32 [.sl 1 [[eS ⟨#[97]⟩]], .sl 1 [[eI 5]], .c (.slice none 0 0), .c (.slice none 0 0), .c (.slice none 0 0), .sl 5 [[.c (.string ByteArray.empty), eI 0, eI 0, .c (.slice none 0 0), eI 0]], .c (.slice none 0 0), .c (.slice none 0 0), .c (.slice none 0 0), .c (.slice none 0 0)]))], 4⟩) (sc_of mixedT ?_) ?_
  · (repeat' (first | simp (maxSteps := 5000000) (implicitDefEqProofs := false) only [ruA, ruB, aEv, aTake, aLoad, aField, aIndex, aLen, aBin, bin2, aUn, un1, aExtract, aConv, ASt.get, aget, ASt.put, aStore, aBox, aAppend, aBuildSlice, aMake, aBuild, aFill, oneParts, allC, aBinS, yv, aCells, oneC, oneCL, treeC, treeL, aLit, aDst, aSrc, appTab, Value.cells, Value.oneCell', envOf, aResL, aOne, ↓reduceIte, reduceCtorEq, forall_const, Nat.reduceLT, Nat.reduceEqDiff, Nat.reduceAdd, Nat.reduceMul, Nat.reduceSub, Nat.reduceLeDiff, Nat.reduceBEq, eq_self, implies_true, ne_eq, dref, dref1, dref2, aExecS, aStoreB, aTakes, aTakeE, aElder, aFrom, aFresh, isLoad, aBuildSlice1, frzs, frz1, ownIds, AV.frz, AV.frzL, frzEnv, AV.shift, AV.shiftL, aFieldV, aSliceW, aSliceO, aSlice, aSliceR, aSliceS, aBd, aMax, frzAVs, frzAV, frzTab, AObj.frz, aMM, aNilS, aMay, tyR_22, tyR_23, tyR_26, tyZ_37, tyB_32, tyZ_32, tyS_32, tyA_32, tyK_9] | (with_reducible refine aIf_split (fun _ => ?_) (fun _ => ?_)) | (with_reducible refine aSel_split (fun _ => ?_) (fun _ => ?_)) | (with_reducible refine aGd_split (fun _ => ?_) (fun _ => ?_))))
    refine ⟨rfl, rfl, ⟨by decide, by decide, by decide⟩, aTo_mk ((((weak_frz _ 0).trans (weak_frz _ 1)).trans (weak_frz _ 2)).trans ?_) rfl⟩
    simp [frz1, frzEnv, frzTab, ATab.get_cons, AObj.frz, AV.frz, AV.frzL]
    exact (weak_cut1 (by (first | ((simp only [envIn, tabIn, envLt, tabLt, AObj.lt, AV.lt, AV.ltL, ruW, ASt.get, aget, ASt.put, ↓reduceIte, reduceCtorEq, Nat.reduceLT, Nat.reduceEqDiff, Nat.reduceAdd, Nat.reduceLeDiff, eq_self, implies_true]) <;> (repeat' apply And.intro) <;> first | (rw [wrapK (by omega)]; done) | (simp; done) | omega) | fail)))
  rintro _ rfl
  refine sc_of mixedT ?_
  (repeat' (first | simp (maxSteps := 5000000) (implicitDefEqProofs := false) only [ruA, ruB, aEv, aTake, aLoad, aField, aIndex, aLen, aBin, bin2, aUn, un1, aExtract, aConv, ASt.get, aget, ASt.put, aStore, aBox, aAppend, aBuildSlice, aMake, aBuild, aFill, oneParts, allC, aBinS, yv, aCells, oneC, oneCL, treeC, treeL, aLit, aDst, aSrc, appTab, Value.cells, Value.oneCell', envOf, aResL, aOne, ↓reduceIte, reduceCtorEq, forall_const, Nat.reduceLT, Nat.reduceEqDiff, Nat.reduceAdd, Nat.reduceMul, Nat.reduceSub, Nat.reduceLeDiff, Nat.reduceBEq, eq_self, implies_true, ne_eq, dref, dref1, dref2, aExecS, aStoreB, aTakes, aTakeE, aElder, aFrom, aFresh, isLoad, aBuildSlice1, frzs, frz1, ownIds, AV.frz, AV.frzL, frzEnv, AV.shift, AV.shiftL, aFieldV, aSliceW, aSliceO, aSlice, aSliceR, aSliceS, aBd, aMax, frzAVs, frzAV, frzTab, AObj.frz, aMM, aNilS, aMay, tyR_22, tyR_23, tyR_26, tyZ_37, tyB_32, tyZ_32, tyS_32, tyA_32, tyK_9] | (with_reducible refine aIf_split (fun _ => ?_) (fun _ => ?_)) | (with_reducible refine aSel_split (fun _ => ?_) (fun _ => ?_)) | (with_reducible refine aGd_split (fun _ => ?_) (fun _ => ?_))))
  refine aDraw_held [] [0] (.exec 1 (.exec 2 (.take 3 (.take 4 (.take 5 (.take 6 (.exec 7 (.exec 8 (.take 9 (.exec 10 .done)))))))))) (by kernel_rfl) (by simp [ATab.get_cons]) ?_
  (repeat' (first | simp (maxSteps := 5000000) (implicitDefEqProofs := false) only [ruA, ruB, aEv, aTake, aLoad, aField, aIndex, aLen, aBin, bin2, aUn, un1, aExtract, aConv, ASt.get, aget, ASt.put, aStore, aBox, aAppend, aBuildSlice, aMake, aBuild, aFill, oneParts, allC, aBinS, yv, aCells, oneC, oneCL, treeC, treeL, aLit, aDst, aSrc, appTab, Value.cells, Value.oneCell', envOf, aResL, aOne, ↓reduceIte, reduceCtorEq, forall_const, Nat.reduceLT, Nat.reduceEqDiff, Nat.reduceAdd, Nat.reduceMul, Nat.reduceSub, Nat.reduceLeDiff, Nat.reduceBEq, eq_self, implies_true, ne_eq, dref, dref1, dref2, aExecS, aStoreB, aTakes, aTakeE, aElder, aFrom, aFresh, isLoad, aBuildSlice1, frzs, frz1, ownIds, AV.frz, AV.frzL, frzEnv, AV.shift, AV.shiftL, aFieldV, aSliceW, aSliceO, aSlice, aSliceR, aSliceS, aBd, aMax, frzAVs, frzAV, frzTab, AObj.frz, aMM, aNilS, aMay, tyR_22, tyR_23, tyR_26, tyZ_37, tyB_32, tyZ_32, tyS_32, tyA_32, tyK_9, b1, er] | (with_reducible refine aIf_split (fun _ => ?_) (fun _ => ?_)) | (with_reducible refine aSel_split (fun _ => ?_) (fun _ => ?_)) | (with_reducible refine aGd_split (fun _ => ?_) (fun _ => ?_)) | (with_reducible refine aDraw_quiet (by kernel_rfl) ?_) | ((with_reducible apply callT); exact (hS2); exact (.inl (by simp [roL, roA, treeL, treeC]))) | ((with_reducible apply callV); exact (hT)) | ((with_reducible apply callD); exact (hT)) | ((with_reducible apply callV); exact (hC2)) | ((with_reducible apply callD); exact (hC2)) | (with_reducible apply And.intro)))
  all_goals trace_state
end
section
open Go.RowKit
theorem arg_one {vs : Array Value} {a : AV} (hn : vs.size = [a].length) : ∃ x, vs = #[x] := ⟨vs[0]'(by simp at hn; omega), by
  apply Array.ext (by simpa using hn)
  intro i h1 h2
  simp at h2
  subst h2
  rfl⟩
theorem arg_two {vs : Array Value} {a b : AV} (hn : vs.size = [a, b].length) : ∃ x y, vs = #[x, y] := by
  have h : vs.size = 2 := hn
  exact ⟨vs[0], vs[1], by apply Array.ext (by simpa using h); intro i h1 h2; simp at h2; match i with | 0 => rfl | 1 => rfl⟩
theorem numRead_A (s : ByteArray) (hs : s.size ≤ 9223372036854775807) : ADet Tryd.prog 46 [eS s] ⟨.tup [eI (readL (byL s)).1, eI (readL (byL s)).2], [], 0⟩ :=
  ⟨enters_of Tryd.func46 rfl (by decide), fun S w vs hS hn hv => by
    obtain ⟨a, rfl⟩ := arg_one hn
    obtain rfl := rtc (hv 0 a _ rfl rfl)
    refine (numRead_any s w hs).mono fun e w' ⟨h1, h2⟩ => ?_
    subst h2
    refine ⟨_, fun _ => undef, _, rfl, ⟨fun id o h => (by cases h), ⟨trivial, trivial, trivial⟩⟩, h1, ⟨belowX (Below.refl _ _), fun id o h => (by cases h), fun id id' o o' g h => (by cases h), fun b hb => hb.elim⟩, .tree (.tup _ _ rfl fun j x av h3 h4 => ?_)⟩
    match j with
    | 0 => simp at h3 h4; subst h3; subst h4; exact .c _
    | 1 => simp at h3 h4; subst h3; subst h4; exact .c _
    | j + 2 => simp at h3⟩
theorem split_A (t : ByteArray) (hs : t.size ≤ 100000) : ADet Tryd.prog 45 [eS t, eS ⟨#[32]⟩] ⟨.sl 1 ((wordsB t).map fun s => [eS s]), [], 0⟩ :=
  ⟨enters_of Tryd.func45 rfl (by decide), fun S w vs hS hn hv => by
    obtain ⟨a, b, rfl⟩ := arg_two hn
    obtain rfl := rtc (hv 0 a _ rfl rfl)
    obtain rfl := rtc (hv 1 b _ rfl rfl)
    obtain ⟨m, hm⟩ := hS.amb.var
    have hlen : (wordsB t).length = Lib.countB t ⟨#[32]⟩ + 1 := Lib.splitB_all ⟨#[32]⟩ (by decide) 0 _ t rfl
    have hle := wordsB_le t
    refine (Tryd.strings_Split t ⟨#[32]⟩ m w (by omega) hm (by decide)).mono fun e w' ⟨h1, h2⟩ => ?_
    subst h2
    rw [← hlen] at h1
    refine ⟨_, fun _ => undef, _, rfl, ⟨fun id o h => (by cases h), by simp [AV.lt]⟩, h1, ⟨belowX ((Below.refl _ _).alloc (Nat.le_refl _) _), fun id o h => (by cases h), fun id id' o o' g h => (by cases h), fun b hb => hb.elim⟩, .tree ?_⟩
    have hl : ((wordsB t).map fun s => [eS s]).length = (wordsB t).length := List.length_map ..
    refine .sl _ _ _ _ _ w.heap.size 0 (fun i _ => .string ((wordsB t).getD i ⟨#[]⟩)) hl.symm (Nat.le_refl _) (by omega) (fun _ => ⟨rfl, by simp, ⟨.inr (Nat.le_refl _), fun h => h.elim⟩, fun id o h => (by cases h)⟩) (fun row hr => ?_) (fun _ i j row av h3 h4 => ?_) (fun i j row av h3 h4 => rfl) (fun i j row av h3 h4 => ?_)
    · obtain ⟨s, _, rfl⟩ := List.mem_map.1 hr
      rfl
    · rw [List.getElem?_map] at h3
      obtain ⟨s, hs2, rfl⟩ := Option.map_eq_some_iff.1 h3
      match j, h4 with
      | 0, h4 =>
        rw [List.getD_eq_getElem?_getD, hs2]
        show (w.alloc _).cell? ⟨w.heap.size, 0 + i * 1 + 0, none⟩ = _
        rw [show 0 + i * 1 + 0 = i by omega]
        have h5 : ((wordsB t).map Value.string).toArray[i]? = some (.string s) := by
          rw [List.getElem?_toArray, List.getElem?_map, hs2]
          rfl
        rw [World.cell?_alloc_new]
        exact h5
      | j + 1, h4 => simp at h4
    · rw [List.getElem?_map] at h3
      obtain ⟨s, hs2, rfl⟩ := Option.map_eq_some_iff.1 h3
      match j, h4 with
      | 0, h4 =>
        rw [List.getD_eq_getElem?_getD, hs2]
        simp at h4
        subst h4
        exact .c _
      | j + 1, h4 => simp at h4⟩
set_option maxRecDepth 100000 in
set_option maxHeartbeats 8000000 in
theorem ints1_A (l : List Int) (hl : l.length ≤ 1000000) : ADet Tryd.prog 35 [sI l] (own 3 1 (l.map fun n => [eI n])) := by
  refine adet_of_code mixedT Tryd.func35 rfl (by decide) Tryd.ntmps35 Tryd.results35 rfl (own_ok _ _ _) ?_
  (repeat' (first | simp (maxSteps := 5000000) (implicitDefEqProofs := false) only [ruA, ruB, aEv, aTake, aLoad, aField, aIndex, aLen, aBin, bin2, aUn, un1, aExtract, aConv, ASt.get, aget, ASt.put, aStore, aBox, aAppend, aBuildSlice, aMake, aBuild, aFill, oneParts, allC, aBinS, yv, aCells, oneC, oneCL, treeC, treeL, aLit, aDst, aSrc, appTab, Value.cells, Value.oneCell', envOf, aResL, aOne, ↓reduceIte, reduceCtorEq, forall_const, Nat.reduceLT, Nat.reduceEqDiff, Nat.reduceAdd, Nat.reduceMul, Nat.reduceSub, Nat.reduceLeDiff, Nat.reduceBEq, eq_self, implies_true, ne_eq, dref, dref1, dref2, aExecS, aStoreB, aTakes, aTakeE, aElder, aFrom, aFresh, isLoad, aBuildSlice1, frzs, frz1, ownIds, AV.frz, AV.frzL, frzEnv, AV.shift, AV.shiftL, aFieldV, aSliceW, aSliceO, aSlice, aSliceR, aSliceS, aBd, aMax, frzAVs, frzAV, frzTab, AObj.frz, aMM, aNilS, aMay, tyE_23, tyK_23, tyK_3, tyA_2, tyS_2, tyR_33, List.length_map] | (with_reducible refine aIf_split (fun _ => ?_) (fun _ => ?_)) | (with_reducible refine aSel_split (fun _ => ?_) (fun _ => ?_)) | (with_reducible refine aGd_split (fun _ => ?_) (fun _ => ?_)) | (with_reducible refine aDraw_quiet (by kernel_rfl) ?_)))
  refine aLoop_of (fun st => ∃ k : Nat, k ≤ l.length ∧ st = ⟨18, [(3, .osl 0), (6, sI l), (7, eI (l.length : Int)), (8, eI (k : Int))], [(0, some (.row 3 1 ((l.take k).map fun n => [eI n])))], 1⟩) (fun st => l.length - slotN st 8) ⟨_, ((weak_nil 3 3 1 (by simp only [ruW, ASt.get, aget, ASt.put, ↓reduceIte, reduceCtorEq, Nat.reduceLT, Nat.reduceEqDiff, Nat.reduceAdd, Nat.reduceLeDiff, eq_self, implies_true, List.length_map, List.take_zero, List.map_nil])).trans (weak_ren1 [0] ⟨(by decide), (by (first | ((simp only [envInR, tabInR, envLt, tabLt, AObj.lt, AV.lt, AV.ltL, AV.ren, AV.renL, AObj.ren, List.getD_cons_zero, List.getD_cons_succ, List.length_cons, List.length_nil, ruW, ASt.get, aget, ASt.put, ↓reduceIte, reduceCtorEq, Nat.reduceLT, Nat.reduceEqDiff, Nat.reduceAdd, Nat.reduceLeDiff, eq_self, implies_true, List.length_map, List.take_zero, List.map_nil]) <;> (repeat' apply And.intro) <;> first | (rw [wrapK (by omega)]; done) | (simp; done) | omega) | fail))⟩)), 0, Nat.zero_le _, rfl⟩ ?_
  rintro _ ⟨k, hk, rfl⟩
  by_cases hlt : k < l.length
  · have hsn : (l.take (k + 1)).map (fun n => [eI n]) = (l.take k).map (fun n => [eI n]) ++ [[eI l[k]]] := by
      rw [List.take_succ_eq_append_getElem hlt, List.map_append]
      rfl
    have htl : (l.take k).length ≤ 1000000 := by rw [List.length_take]; omega
    generalize hx : l[k] = x at *
    (repeat' (first | simp (maxSteps := 5000000) (implicitDefEqProofs := false) only [ruA, ruB, aEv, aTake, aLoad, aField, aIndex, aLen, aBin, bin2, aUn, un1, aExtract, aConv, ASt.get, aget, ASt.put, aStore, aBox, aAppend, aBuildSlice, aMake, aBuild, aFill, oneParts, allC, aBinS, yv, aCells, oneC, oneCL, treeC, treeL, aLit, aDst, aSrc, appTab, Value.cells, Value.oneCell', envOf, aResL, aOne, ↓reduceIte, reduceCtorEq, forall_const, Nat.reduceLT, Nat.reduceEqDiff, Nat.reduceAdd, Nat.reduceMul, Nat.reduceSub, Nat.reduceLeDiff, Nat.reduceBEq, eq_self, implies_true, ne_eq, dref, dref1, dref2, aExecS, aStoreB, aTakes, aTakeE, aElder, aFrom, aFresh, isLoad, aBuildSlice1, frzs, frz1, ownIds, AV.frz, AV.frzL, frzEnv, AV.shift, AV.shiftL, aFieldV, aSliceW, aSliceO, aSlice, aSliceR, aSliceS, aBd, aMax, frzAVs, frzAV, frzTab, AObj.frz, aMM, aNilS, aMay, tyE_23, tyK_23, tyK_3, tyA_2, tyS_2, tyR_33, row_at, hlt, hx, List.length_map, List.length_cons] | (with_reducible refine aIf_split (fun _ => ?_) (fun _ => ?_)) | (with_reducible refine aSel_split (fun _ => ?_) (fun _ => ?_)) | (with_reducible refine aGd_split (fun _ => ?_) (fun _ => ?_)) | (with_reducible refine aDraw_quiet (by kernel_rfl) ?_) | (with_reducible apply And.intro)))
    all_goals first
      | rfl
      | omega
      | exact roundI (weak_ren1 [2] ⟨(by decide), (by (first | ((simp only [envInR, tabInR, envLt, tabLt, AObj.lt, AV.lt, AV.ltL, AV.ren, AV.renL, AObj.ren, List.getD_cons_zero, List.getD_cons_succ, List.length_cons, List.length_nil, ruW, ASt.get, aget, ASt.put, ↓reduceIte, reduceCtorEq, Nat.reduceLT, Nat.reduceEqDiff, Nat.reduceAdd, Nat.reduceLeDiff, eq_self, implies_true, hsn, List.cons_append]) <;> (repeat' apply And.intro) <;> first | (rw [wrapK (by omega)]; done) | (simp; done) | omega) | fail))⟩) ⟨k + 1, by omega, rfl⟩ (by simp only [slotN, ruW, ASt.get, aget, ASt.put, ↓reduceIte, reduceCtorEq, Nat.reduceLT, Nat.reduceEqDiff, Nat.reduceAdd, Nat.reduceLeDiff, eq_self, implies_true]; omega)
      | trace_state
  · obtain rfl : k = l.length := by omega
    (repeat' (first | simp (maxSteps := 5000000) (implicitDefEqProofs := false) only [ruA, ruB, aEv, aTake, aLoad, aField, aIndex, aLen, aBin, bin2, aUn, un1, aExtract, aConv, ASt.get, aget, ASt.put, aStore, aBox, aAppend, aBuildSlice, aMake, aBuild, aFill, oneParts, allC, aBinS, yv, aCells, oneC, oneCL, treeC, treeL, aLit, aDst, aSrc, appTab, Value.cells, Value.oneCell', envOf, aResL, aOne, ↓reduceIte, reduceCtorEq, forall_const, Nat.reduceLT, Nat.reduceEqDiff, Nat.reduceAdd, Nat.reduceMul, Nat.reduceSub, Nat.reduceLeDiff, Nat.reduceBEq, eq_self, implies_true, ne_eq, dref, dref1, dref2, aExecS, aStoreB, aTakes, aTakeE, aElder, aFrom, aFresh, isLoad, aBuildSlice1, frzs, frz1, ownIds, AV.frz, AV.frzL, frzEnv, AV.shift, AV.shiftL, aFieldV, aSliceW, aSliceO, aSlice, aSliceR, aSliceS, aBd, aMax, frzAVs, frzAV, frzTab, AObj.frz, aMM, aNilS, aMay, tyE_23, tyK_23, tyK_3, tyA_2, tyS_2, tyR_33, hlt, List.length_map] | (with_reducible refine aIf_split (fun _ => ?_) (fun _ => ?_)) | (with_reducible refine aSel_split (fun _ => ?_) (fun _ => ?_)) | (with_reducible refine aGd_split (fun _ => ?_) (fun _ => ?_)) | (with_reducible refine aDraw_quiet (by kernel_rfl) ?_)))
    all_goals exact aGives_own (by simp [ATab.get_cons])
theorem ints_A (l : List Int) (hl : l.length ≤ 1000000) : ADet Tryd.prog 35 [sI l] ⟨sI l, [], 0⟩ := ADet.still [0] (ints1_A l hl) rfl trivial
abbrev nilV : AV := .c (.slice none 0 0)
/-- the answer of state.list -/
def listAV (l : List Int) : AV := if (listP l).2.2 = 0 then .tup [sI (listP l).1, sI (listP l).2.1, eI 0] else .tup [nilV, nilV, eI (listP l).2.2]
set_option maxRecDepth 100000 in
set_option maxHeartbeats 8000000 in
theorem list_A (l : List Int) (hl : l.length ≤ 1000000) : ADet Tryd.prog 33 [sI l] ⟨listAV l, [], 0⟩ := by
  cases l with
  | nil =>
    show ADet Tryd.prog 33 [sI []] ⟨.tup [nilV, nilV, eI 17], [], 0⟩
    refine adet_of_code mixedT Tryd.func33 rfl (by decide) Tryd.ntmps33 Tryd.results33 rfl (⟨fun id o h => (by cases h), ⟨trivial, trivial, trivial, trivial⟩⟩) ?_
    have n0 : (((0 : Nat) : Int) == 0) = true := rfl
    (repeat' (first | simp (maxSteps := 5000000) (implicitDefEqProofs := false) only [ruA, ruB, aEv, aTake, aLoad, aField, aIndex, aLen, aBin, bin2, aUn, un1, aExtract, aConv, ASt.get, aget, ASt.put, aStore, aBox, aAppend, aBuildSlice, aMake, aBuild, aFill, oneParts, allC, aBinS, yv, aCells, oneC, oneCL, treeC, treeL, aLit, aDst, aSrc, appTab, Value.cells, Value.oneCell', envOf, aResL, aOne, ↓reduceIte, reduceCtorEq, forall_const, Nat.reduceLT, Nat.reduceEqDiff, Nat.reduceAdd, Nat.reduceMul, Nat.reduceSub, Nat.reduceLeDiff, Nat.reduceBEq, eq_self, implies_true, ne_eq, dref, dref1, dref2, aExecS, aStoreB, aTakes, aTakeE, aElder, aFrom, aFresh, isLoad, aBuildSlice1, frzs, frz1, ownIds, AV.frz, AV.frzL, frzEnv, AV.shift, AV.shiftL, aFieldV, aSliceW, aSliceO, aSlice, aSliceR, aSliceS, aBd, aMax, frzAVs, frzAV, frzTab, AObj.frz, aMM, aNilS, aMay, tyE_23, tyK_23, tyK_3, tyA_2, tyS_2, tyK_2, n0] | (with_reducible refine aIf_split (fun _ => ?_) (fun _ => ?_)) | (with_reducible refine aSel_split (fun _ => ?_) (fun _ => ?_)) | (with_reducible refine aGd_split (fun _ => ?_) (fun _ => ?_)) | (with_reducible refine aDraw_quiet (by kernel_rfl) ?_)))
    all_goals exact ⟨[], by simp, rfl, trivial⟩
  | cons n l =>
    rw [List.length_cons] at hl
    have e0 : (((l.length + 1 : Nat) : Int) == 0) = false := by rw [beq_eq_false_iff_ne]; omega
    have z0 : Int.toNat 0 = 0 := rfl
    have p0 : (0 : Int) < ((l.length + 1 : Nat) : Int) := by omega
    by_cases h1 : n < 0
    · have hR : listAV (n :: l) = .tup [nilV, nilV, eI 17] := by
        unfold listAV listP
        simp only [if_pos h1]
        rfl
      rw [hR]
      have d1 : decide (n < 0) = true := decide_eq_true h1
      refine adet_of_code mixedT Tryd.func33 rfl (by decide) Tryd.ntmps33 Tryd.results33 rfl (⟨fun id o h => (by cases h), ⟨trivial, trivial, trivial, trivial⟩⟩) ?_
      (repeat' (first | simp (maxSteps := 5000000) (implicitDefEqProofs := false) only [ruA, ruB, aEv, aTake, aLoad, aField, aIndex, aLen, aBin, bin2, aUn, un1, aExtract, aConv, ASt.get, aget, ASt.put, aStore, aBox, aAppend, aBuildSlice, aMake, aBuild, aFill, oneParts, allC, aBinS, yv, aCells, oneC, oneCL, treeC, treeL, aLit, aDst, aSrc, appTab, Value.cells, Value.oneCell', envOf, aResL, aOne, ↓reduceIte, reduceCtorEq, forall_const, Nat.reduceLT, Nat.reduceEqDiff, Nat.reduceAdd, Nat.reduceMul, Nat.reduceSub, Nat.reduceLeDiff, Nat.reduceBEq, eq_self, implies_true, ne_eq, dref, dref1, dref2, aExecS, aStoreB, aTakes, aTakeE, aElder, aFrom, aFresh, isLoad, aBuildSlice1, frzs, frz1, ownIds, AV.frz, AV.frzL, frzEnv, AV.shift, AV.shiftL, aFieldV, aSliceW, aSliceO, aSlice, aSliceR, aSliceS, aBd, aMax, frzAVs, frzAV, frzTab, AObj.frz, aMM, aNilS, aMay, tyE_23, tyK_23, tyK_3, tyA_2, tyS_2, tyK_2, e0, z0, p0, d1] | (with_reducible refine aIf_split (fun _ => ?_) (fun _ => ?_)) | (with_reducible refine aSel_split (fun _ => ?_) (fun _ => ?_)) | (with_reducible refine aGd_split (fun _ => ?_) (fun _ => ?_)) | (with_reducible refine aDraw_quiet (by kernel_rfl) ?_)))
      all_goals first
        | exact ⟨[], by simp, rfl, trivial⟩
        | (exfalso; simp_all; done)
        | trace_state
    · have d1 : decide (n < 0) = false := decide_eq_false h1
      by_cases h2 : 100 < n
      · have hR : listAV (n :: l) = .tup [nilV, nilV, eI 3] := by
          unfold listAV listP
          simp only [if_neg h1, if_pos h2]
          rfl
        rw [hR]
        have d2 : decide (100 < n) = true := decide_eq_true h2
        refine adet_of_code mixedT Tryd.func33 rfl (by decide) Tryd.ntmps33 Tryd.results33 rfl (⟨fun id o h => (by cases h), ⟨trivial, trivial, trivial, trivial⟩⟩) ?_
        (repeat' (first | simp (maxSteps := 5000000) (implicitDefEqProofs := false) only [ruA, ruB, aEv, aTake, aLoad, aField, aIndex, aLen, aBin, bin2, aUn, un1, aExtract, aConv, ASt.get, aget, ASt.put, aStore, aBox, aAppend, aBuildSlice, aMake, aBuild, aFill, oneParts, allC, aBinS, yv, aCells, oneC, oneCL, treeC, treeL, aLit, aDst, aSrc, appTab, Value.cells, Value.oneCell', envOf, aResL, aOne, ↓reduceIte, reduceCtorEq, forall_const, Nat.reduceLT, Nat.reduceEqDiff, Nat.reduceAdd, Nat.reduceMul, Nat.reduceSub, Nat.reduceLeDiff, Nat.reduceBEq, eq_self, implies_true, ne_eq, dref, dref1, dref2, aExecS, aStoreB, aTakes, aTakeE, aElder, aFrom, aFresh, isLoad, aBuildSlice1, frzs, frz1, ownIds, AV.frz, AV.frzL, frzEnv, AV.shift, AV.shiftL, aFieldV, aSliceW, aSliceO, aSlice, aSliceR, aSliceS, aBd, aMax, frzAVs, frzAV, frzTab, AObj.frz, aMM, aNilS, aMay, tyE_23, tyK_23, tyK_3, tyA_2, tyS_2, tyK_2, e0, z0, p0, d1, d2] | (with_reducible refine aIf_split (fun _ => ?_) (fun _ => ?_)) | (with_reducible refine aSel_split (fun _ => ?_) (fun _ => ?_)) | (with_reducible refine aGd_split (fun _ => ?_) (fun _ => ?_)) | (with_reducible refine aDraw_quiet (by kernel_rfl) ?_)))
        all_goals first
          | exact ⟨[], by simp, rfl, trivial⟩
          | (exfalso; simp_all; done)
          | trace_state
      · have d2 : decide (100 < n) = false := decide_eq_false h2
        have w1 : IntKind.i64.wrap (((l.length + 1 : Nat) : Int) - 1) = (l.length : Int) := by rw [wrap_in (by omega) (by omega)]; omega
        by_cases h3 : (l.length : Int) < n
        · have hR : listAV (n :: l) = .tup [nilV, nilV, eI 17] := by
            unfold listAV listP
            simp only [if_neg h1, if_neg h2, if_pos h3]
            rfl
          rw [hR]
          have d3 : decide ((l.length : Int) < n) = true := decide_eq_true h3
          refine adet_of_code mixedT Tryd.func33 rfl (by decide) Tryd.ntmps33 Tryd.results33 rfl (⟨fun id o h => (by cases h), ⟨trivial, trivial, trivial, trivial⟩⟩) ?_
          (repeat' (first | simp (maxSteps := 5000000) (implicitDefEqProofs := false) only [ruA, ruB, aEv, aTake, aLoad, aField, aIndex, aLen, aBin, bin2, aUn, un1, aExtract, aConv, ASt.get, aget, ASt.put, aStore, aBox, aAppend, aBuildSlice, aMake, aBuild, aFill, oneParts, allC, aBinS, yv, aCells, oneC, oneCL, treeC, treeL, aLit, aDst, aSrc, appTab, Value.cells, Value.oneCell', envOf, aResL, aOne, ↓reduceIte, reduceCtorEq, forall_const, Nat.reduceLT, Nat.reduceEqDiff, Nat.reduceAdd, Nat.reduceMul, Nat.reduceSub, Nat.reduceLeDiff, Nat.reduceBEq, eq_self, implies_true, ne_eq, dref, dref1, dref2, aExecS, aStoreB, aTakes, aTakeE, aElder, aFrom, aFresh, isLoad, aBuildSlice1, frzs, frz1, ownIds, AV.frz, AV.frzL, frzEnv, AV.shift, AV.shiftL, aFieldV, aSliceW, aSliceO, aSlice, aSliceR, aSliceS, aBd, aMax, frzAVs, frzAV, frzTab, AObj.frz, aMM, aNilS, aMay, tyE_23, tyK_23, tyK_3, tyA_2, tyS_2, tyK_2, e0, z0, p0, d1, d2, w1, d3] | (with_reducible refine aIf_split (fun _ => ?_) (fun _ => ?_)) | (with_reducible refine aSel_split (fun _ => ?_) (fun _ => ?_)) | (with_reducible refine aGd_split (fun _ => ?_) (fun _ => ?_)) | (with_reducible refine aDraw_quiet (by kernel_rfl) ?_)))
          all_goals first
            | exact ⟨[], by simp, rfl, trivial⟩
            | (exfalso; simp_all; done)
            | trace_state
        · have hR : listAV (n :: l) = .tup [sI (l.take n.toNat), sI (l.drop n.toNat), eI 0] := by
            unfold listAV listP
            simp only [if_neg h1, if_neg h2, if_neg h3]
            rfl
          rw [hR]
          have d3 : decide ((l.length : Int) < n) = false := decide_eq_false h3
          obtain ⟨k, rfl⟩ : ∃ k : Nat, n = (k : Int) := ⟨n.toNat, by omega⟩
          have w2 : IntKind.i64.wrap ((k : Int) + 1) = ((k + 1 : Nat) : Int) := wrapK (by omega)
          have m1 : (l.map fun n : Int => [eI n]).take k = (l.take k).map fun n => [eI n] := List.map_take.symm
          have m2 : (l.map fun n : Int => [eI n]).drop k = (l.drop k).map fun n => [eI n] := List.map_drop.symm
          have t1 : Int.toNat 1 = 1 := rfl
          have m0 : (l.map fun n : Int => [eI n]).take l.length = l.map fun n => [eI n] := List.take_of_length_le (by simp)
          rw [Int.toNat_natCast]
          refine adet_of_code mixedT Tryd.func33 rfl (by decide) Tryd.ntmps33 Tryd.results33 rfl (⟨fun id o h => (by cases h), ⟨trivial, trivial, trivial, trivial⟩⟩) ?_
          (repeat' (first | simp (maxSteps := 5000000) (implicitDefEqProofs := false) only [ruA, ruB, aEv, aTake, aLoad, aField, aIndex, aLen, aBin, bin2, aUn, un1, aExtract, aConv, ASt.get, aget, ASt.put, aStore, aBox, aAppend, aBuildSlice, aMake, aBuild, aFill, oneParts, allC, aBinS, yv, aCells, oneC, oneCL, treeC, treeL, aLit, aDst, aSrc, appTab, Value.cells, Value.oneCell', envOf, aResL, aOne, ↓reduceIte, reduceCtorEq, forall_const, Nat.reduceLT, Nat.reduceEqDiff, Nat.reduceAdd, Nat.reduceMul, Nat.reduceSub, Nat.reduceLeDiff, Nat.reduceBEq, eq_self, implies_true, ne_eq, dref, dref1, dref2, aExecS, aStoreB, aTakes, aTakeE, aElder, aFrom, aFresh, isLoad, aBuildSlice1, frzs, frz1, ownIds, AV.frz, AV.frzL, frzEnv, AV.shift, AV.shiftL, aFieldV, aSliceW, aSliceO, aSlice, aSliceR, aSliceS, aBd, aMax, frzAVs, frzAV, frzTab, AObj.frz, aMM, aNilS, aMay, tyE_23, tyK_23, tyK_3, tyA_2, tyS_2, tyK_2, e0, z0, p0, d1, d2, w1, w2, d3, m0, m1, m2, t1, List.length_map] | (with_reducible refine aIf_split (fun _ => ?_) (fun _ => ?_)) | (with_reducible refine aSel_split (fun _ => ?_) (fun _ => ?_)) | (with_reducible refine aGd_split (fun _ => ?_) (fun _ => ?_)) | (with_reducible refine aDraw_quiet (by kernel_rfl) ?_) | (with_reducible apply And.intro)))
          all_goals first
            | exact ⟨[], by simp, rfl, trivial⟩
            | omega
            | (exfalso; simp_all; done)
            | trace_state
end
section
open Go.RowKit
theorem ok1 {r : AV} {e sz : Nat} {rows : List (List AV)} (h : r.lt 1) : (⟨r, [(0, some (.row e sz rows))], 1⟩ : Res).Ok := ⟨fun id o hg => (own_ok e sz rows).young id o hg, h⟩
/-- the answer of state.numbers -/
def numsAV (t : ByteArray) : AV := if (wordsB t).all goodW = true then .tup [sI ((wordsB t).map numW), eB true] else .tup [nilV, eB false]
theorem goodW_iff {w : ByteArray} : goodW w = true ↔ (readL (byL w)).2 = 0 ∧ itoaB (readL (byL w)).1 = w := by
  unfold goodW
  rw [Bool.and_eq_true, decide_eq_true_eq, decide_eq_true_eq]
  rfl
set_option maxRecDepth 100000 in
set_option maxHeartbeats 8000000 in
theorem numbersG_A (t : ByteArray) (ht : t.size ≤ 100000) (hg : (wordsB t).all goodW = true) : ADet Tryd.prog 32 [eS t] ⟨.tup [.osl 0, eB true], [(0, some (.row 2 1 (((wordsB t).map numW).map fun n => [eI n])))], 1⟩ := by
  refine adet_of_code mixedT Tryd.func32 rfl (by decide) Tryd.ntmps32 Tryd.results32 rfl (ok1 ⟨Nat.zero_lt_one, trivial, trivial⟩) ?_
  have hS := split_A t ht
  have hle := wordsB_le t
  have hsz := wordsB_size t
  generalize wordsB t = ws at *
  (repeat' (first | simp (maxSteps := 5000000) (implicitDefEqProofs := false) only [ruA, ruB, aEv, aTake, aLoad, aField, aIndex, aLen, aBin, bin2, aUn, un1, aExtract, aConv, ASt.get, aget, ASt.put, aStore, aBox, aAppend, aBuildSlice, aMake, aBuild, aFill, oneParts, allC, aBinS, yv, aCells, oneC, oneCL, treeC, treeL, aLit, aDst, aSrc, appTab, Value.cells, Value.oneCell', envOf, aResL, aOne, ↓reduceIte, reduceCtorEq, forall_const, Nat.reduceLT, Nat.reduceEqDiff, Nat.reduceAdd, Nat.reduceMul, Nat.reduceSub, Nat.reduceLeDiff, Nat.reduceBEq, eq_self, implies_true, ne_eq, dref, dref1, dref2, aExecS, aStoreB, aTakes, aTakeE, aElder, aFrom, aFresh, isLoad, aBuildSlice1, frzs, frz1, ownIds, AV.frz, AV.frzL, frzEnv, AV.shift, AV.shiftL, aFieldV, aSliceW, aSliceO, aSlice, aSliceR, aSliceS, aBd, aMax, frzAVs, frzAV, frzTab, AObj.frz, aMM, aNilS, aMay, tyE_22, tyK_22, tyK_3, tyA_9, tyS_9, tyK_45, tyK_9, tyR_23, List.length_map] | (with_reducible refine aIf_split (fun _ => ?_) (fun _ => ?_)) | (with_reducible refine aSel_split (fun _ => ?_) (fun _ => ?_)) | (with_reducible refine aGd_split (fun _ => ?_) (fun _ => ?_)) | (with_reducible refine aDraw_quiet (by kernel_rfl) ?_) | ((with_reducible apply callT); exact (hS); exact (.inl (by simp [roL, roA, treeL, treeC])))))
  refine aLoop_of (fun st => ∃ k : Nat, k ≤ ws.length ∧ st = ⟨35, [(4, .osl 0), (10, .sl 1 (ws.map fun s => [eS s])), (11, eI (ws.length : Int)), (12, eI (k : Int))], [(0, some (.row 2 1 (((ws.take k).map numW).map fun n => [eI n])))], 1⟩) (fun st => ws.length - slotN st 12) ⟨_, ((weak_nil 4 2 1 (by simp only [ruW, ASt.get, aget, ASt.put, ↓reduceIte, reduceCtorEq, Nat.reduceLT, Nat.reduceEqDiff, Nat.reduceAdd, Nat.reduceLeDiff, eq_self, implies_true, List.length_map, List.take_zero, List.map_nil])).trans (weak_ren1 [0] ⟨(by decide), (by (first | ((simp only [envInR, tabInR, envLt, tabLt, AObj.lt, AV.lt, AV.ltL, AV.ren, AV.renL, AObj.ren, List.getD_cons_zero, List.getD_cons_succ, List.length_cons, List.length_nil, ruW, ASt.get, aget, ASt.put, ↓reduceIte, reduceCtorEq, Nat.reduceLT, Nat.reduceEqDiff, Nat.reduceAdd, Nat.reduceLeDiff, eq_self, implies_true, List.length_map, List.take_zero, List.map_nil]) <;> (repeat' apply And.intro) <;> first | (rw [wrapK (by omega)]; done) | (simp; done) | omega) | fail))⟩)), 0, Nat.zero_le _, rfl⟩ ?_
  rintro _ ⟨k, hk, rfl⟩
  by_cases hlt : k < ws.length
  · have hsn : ((ws.take (k + 1)).map numW).map (fun n => [eI n]) = ((ws.take k).map numW).map (fun n => [eI n]) ++ [[eI (numW ws[k])]] := by
      rw [List.take_succ_eq_append_getElem hlt, List.map_append, List.map_append]
      rfl
    have htl : (ws.take k).length ≤ 100002 := by rw [List.length_take]; omega
    have hgk : goodW ws[k] = true := List.all_eq_true.1 hg _ (List.getElem_mem hlt)
    have hsk := hsz ws[k] (List.getElem_mem hlt)
    generalize hx : ws[k] = x at *
    obtain ⟨g1, g2⟩ := goodW_iff.1 hgk
    have hr := numRead_A x (by omega)
    have hok := read_ok64 x (by omega)
    have hp := print_A _ hok
    rw [g2] at hp
    rw [g1] at hr
    have hnw : (readL (byL x)).1 = numW x := rfl
    rw [hnw] at hr hp
    generalize numW x = n at *
    have b1 : ((0 : Int) != 0) = false := rfl
    have b2 : (!(x == x)) = false := by rw [bs_beq]; simp
    clear hg hgk g1 g2 hsz
    (repeat' (first | simp (maxSteps := 5000000) (implicitDefEqProofs := false) only [ruA, ruB, aEv, aTake, aLoad, aField, aIndex, aLen, aBin, bin2, aUn, un1, aExtract, aConv, ASt.get, aget, ASt.put, aStore, aBox, aAppend, aBuildSlice, aMake, aBuild, aFill, oneParts, allC, aBinS, yv, aCells, oneC, oneCL, treeC, treeL, aLit, aDst, aSrc, appTab, Value.cells, Value.oneCell', envOf, aResL, aOne, ↓reduceIte, reduceCtorEq, forall_const, Nat.reduceLT, Nat.reduceEqDiff, Nat.reduceAdd, Nat.reduceMul, Nat.reduceSub, Nat.reduceLeDiff, Nat.reduceBEq, eq_self, implies_true, ne_eq, dref, dref1, dref2, aExecS, aStoreB, aTakes, aTakeE, aElder, aFrom, aFresh, isLoad, aBuildSlice1, frzs, frz1, ownIds, AV.frz, AV.frzL, frzEnv, AV.shift, AV.shiftL, aFieldV, aSliceW, aSliceO, aSlice, aSliceR, aSliceS, aBd, aMax, frzAVs, frzAV, frzTab, AObj.frz, aMM, aNilS, aMay, tyE_22, tyK_22, tyK_3, tyA_9, tyS_9, tyK_45, tyK_9, tyR_23, row_at, hlt, hx, b1, b2, List.length_map, List.length_cons] | (with_reducible refine aIf_split (fun _ => ?_) (fun _ => ?_)) | (with_reducible refine aSel_split (fun _ => ?_) (fun _ => ?_)) | (with_reducible refine aGd_split (fun _ => ?_) (fun _ => ?_)) | (with_reducible refine aDraw_quiet (by kernel_rfl) ?_) | ((with_reducible apply callT); exact (hr); exact (.inl (by simp [roL, roA, treeL, treeC]))) | ((with_reducible apply callV); exact (hp)) | ((with_reducible apply callD); exact (hp)) | (with_reducible apply And.intro)))
    all_goals first
      | rfl
      | omega
      | exact roundI (weak_ren1 [2] ⟨(by decide), (by (first | ((simp only [envInR, tabInR, envLt, tabLt, AObj.lt, AV.lt, AV.ltL, AV.ren, AV.renL, AObj.ren, List.getD_cons_zero, List.getD_cons_succ, List.length_cons, List.length_nil, ruW, ASt.get, aget, ASt.put, ↓reduceIte, reduceCtorEq, Nat.reduceLT, Nat.reduceEqDiff, Nat.reduceAdd, Nat.reduceLeDiff, eq_self, implies_true, hsn, List.cons_append]) <;> (repeat' apply And.intro) <;> first | (rw [wrapK (by omega)]; done) | (simp; done) | omega) | fail))⟩) ⟨k + 1, by omega, rfl⟩ (by simp only [slotN, ruW, ASt.get, aget, ASt.put, ↓reduceIte, reduceCtorEq, Nat.reduceLT, Nat.reduceEqDiff, Nat.reduceAdd, Nat.reduceLeDiff, eq_self, implies_true]; omega)
      | trace_state
  · obtain rfl : k = ws.length := by omega
    rw [List.take_length]
    (repeat' (first | simp (maxSteps := 5000000) (implicitDefEqProofs := false) only [ruA, ruB, aEv, aTake, aLoad, aField, aIndex, aLen, aBin, bin2, aUn, un1, aExtract, aConv, ASt.get, aget, ASt.put, aStore, aBox, aAppend, aBuildSlice, aMake, aBuild, aFill, oneParts, allC, aBinS, yv, aCells, oneC, oneCL, treeC, treeL, aLit, aDst, aSrc, appTab, Value.cells, Value.oneCell', envOf, aResL, aOne, ↓reduceIte, reduceCtorEq, forall_const, Nat.reduceLT, Nat.reduceEqDiff, Nat.reduceAdd, Nat.reduceMul, Nat.reduceSub, Nat.reduceLeDiff, Nat.reduceBEq, eq_self, implies_true, ne_eq, dref, dref1, dref2, aExecS, aStoreB, aTakes, aTakeE, aElder, aFrom, aFresh, isLoad, aBuildSlice1, frzs, frz1, ownIds, AV.frz, AV.frzL, frzEnv, AV.shift, AV.shiftL, aFieldV, aSliceW, aSliceO, aSlice, aSliceR, aSliceS, aBd, aMax, frzAVs, frzAV, frzTab, AObj.frz, aMM, aNilS, aMay, tyE_22, tyK_22, tyK_3, tyA_9, tyS_9, tyK_45, tyK_9, tyR_23, hlt, List.length_map] | (with_reducible refine aIf_split (fun _ => ?_) (fun _ => ?_)) | (with_reducible refine aSel_split (fun _ => ?_) (fun _ => ?_)) | (with_reducible refine aGd_split (fun _ => ?_) (fun _ => ?_)) | (with_reducible refine aDraw_quiet (by kernel_rfl) ?_)))
    all_goals exact ⟨[0], by simp, rfl, ⟨Nat.zero_lt_one, ⟨_, _, _, rfl⟩, by simp [ATab.get_cons]⟩, trivial⟩
theorem bad_first {p : ByteArray → Bool} : ∀ {l : List ByteArray}, l.all p ≠ true → ∃ k : Nat, ∃ h : k < l.length, p l[k] = false ∧ ∀ i (hi : i < k), p (l[i]'(by omega)) = true
  | [], h => absurd rfl h
  | a :: l, h => by
    cases ha : p a with
    | false => exact ⟨0, by simp, ha, fun i hi => by omega⟩
    | true =>
      obtain ⟨k, hk, h1, h2⟩ := bad_first (p := p) (l := l) (by rw [List.all_cons, ha] at h; simpa using h)
      refine ⟨k + 1, by simp; omega, h1, fun i hi => ?_⟩
      cases i with
      | zero => exact ha
      | succ i => exact h2 i (by omega)
set_option maxRecDepth 100000 in
set_option maxHeartbeats 8000000 in
theorem numbersB_A (t : ByteArray) (ht : t.size ≤ 100000) (hg : (wordsB t).all goodW ≠ true) : ADet Tryd.prog 32 [eS t] ⟨.tup [nilV, eB false], [], 0⟩ := by
  refine adet_of_code mixedT Tryd.func32 rfl (by decide) Tryd.ntmps32 Tryd.results32 rfl (⟨fun id o h => (by cases h), ⟨trivial, trivial, trivial⟩⟩) ?_
  have hS := split_A t ht
  have hle := wordsB_le t
  have hsz := wordsB_size t
  obtain ⟨b, hb, hb1, hb2⟩ := bad_first hg
  generalize wordsB t = ws at *
  (repeat' (first | simp (maxSteps := 5000000) (implicitDefEqProofs := false) only [ruA, ruB, aEv, aTake, aLoad, aField, aIndex, aLen, aBin, bin2, aUn, un1, aExtract, aConv, ASt.get, aget, ASt.put, aStore, aBox, aAppend, aBuildSlice, aMake, aBuild, aFill, oneParts, allC, aBinS, yv, aCells, oneC, oneCL, treeC, treeL, aLit, aDst, aSrc, appTab, Value.cells, Value.oneCell', envOf, aResL, aOne, ↓reduceIte, reduceCtorEq, forall_const, Nat.reduceLT, Nat.reduceEqDiff, Nat.reduceAdd, Nat.reduceMul, Nat.reduceSub, Nat.reduceLeDiff, Nat.reduceBEq, eq_self, implies_true, ne_eq, dref, dref1, dref2, aExecS, aStoreB, aTakes, aTakeE, aElder, aFrom, aFresh, isLoad, aBuildSlice1, frzs, frz1, ownIds, AV.frz, AV.frzL, frzEnv, AV.shift, AV.shiftL, aFieldV, aSliceW, aSliceO, aSlice, aSliceR, aSliceS, aBd, aMax, frzAVs, frzAV, frzTab, AObj.frz, aMM, aNilS, aMay, tyE_22, tyK_22, tyK_3, tyA_9, tyS_9, tyK_45, tyK_9, tyR_23, List.length_map] | (with_reducible refine aIf_split (fun _ => ?_) (fun _ => ?_)) | (with_reducible refine aSel_split (fun _ => ?_) (fun _ => ?_)) | (with_reducible refine aGd_split (fun _ => ?_) (fun _ => ?_)) | (with_reducible refine aDraw_quiet (by kernel_rfl) ?_) | ((with_reducible apply callT); exact (hS); exact (.inl (by simp [roL, roA, treeL, treeC])))))
  refine aLoop_of (fun st => ∃ k : Nat, k ≤ b ∧ st = ⟨35, [(4, .osl 0), (10, .sl 1 (ws.map fun s => [eS s])), (11, eI (ws.length : Int)), (12, eI (k : Int))], [(0, some (.row 2 1 (((ws.take k).map numW).map fun n => [eI n])))], 1⟩) (fun st => ws.length - slotN st 12) ⟨_, ((weak_nil 4 2 1 (by simp only [ruW, ASt.get, aget, ASt.put, ↓reduceIte, reduceCtorEq, Nat.reduceLT, Nat.reduceEqDiff, Nat.reduceAdd, Nat.reduceLeDiff, eq_self, implies_true, List.length_map, List.take_zero, List.map_nil])).trans (weak_ren1 [0] ⟨(by decide), (by (first | ((simp only [envInR, tabInR, envLt, tabLt, AObj.lt, AV.lt, AV.ltL, AV.ren, AV.renL, AObj.ren, List.getD_cons_zero, List.getD_cons_succ, List.length_cons, List.length_nil, ruW, ASt.get, aget, ASt.put, ↓reduceIte, reduceCtorEq, Nat.reduceLT, Nat.reduceEqDiff, Nat.reduceAdd, Nat.reduceLeDiff, eq_self, implies_true, List.length_map, List.take_zero, List.map_nil]) <;> (repeat' apply And.intro) <;> first | (rw [wrapK (by omega)]; done) | (simp; done) | omega) | fail))⟩)), 0, Nat.zero_le _, rfl⟩ ?_
  rintro _ ⟨k, hk, rfl⟩
  have hlt : k < ws.length := by omega
  have hsn : ((ws.take (k + 1)).map numW).map (fun n => [eI n]) = ((ws.take k).map numW).map (fun n => [eI n]) ++ [[eI (numW ws[k])]] := by
    rw [List.take_succ_eq_append_getElem hlt, List.map_append, List.map_append]
    rfl
  have htl : (ws.take k).length ≤ 100002 := by rw [List.length_take]; omega
  have hsk := hsz ws[k] (List.getElem_mem hlt)
  have hgk : k < b → goodW ws[k] = true := fun h => hb2 k h
  have hbk : k = b → goodW ws[k] = false := fun h => by subst h; exact hb1
  generalize hx : ws[k] = x at *
  have hr := numRead_A x (by omega)
  have hok := read_ok64 x (by omega)
  have hp := print_A _ hok
  have hnw : (readL (byL x)).1 = numW x := rfl
  by_cases hkb : k < b
  · obtain ⟨g1, g2⟩ := goodW_iff.1 (hgk hkb)
    rw [g2] at hp
    rw [g1] at hr
    rw [hnw] at hr hp
    generalize numW x = n at *
    have b1 : ((0 : Int) != 0) = false := rfl
    have b2 : (!(x == x)) = false := by rw [bs_beq]; simp
    clear hg hgk g1 g2 hsz hbk hb1 hb2
    (repeat' (first | simp (maxSteps := 5000000) (implicitDefEqProofs := false) only [ruA, ruB, aEv, aTake, aLoad, aField, aIndex, aLen, aBin, bin2, aUn, un1, aExtract, aConv, ASt.get, aget, ASt.put, aStore, aBox, aAppend, aBuildSlice, aMake, aBuild, aFill, oneParts, allC, aBinS, yv, aCells, oneC, oneCL, treeC, treeL, aLit, aDst, aSrc, appTab, Value.cells, Value.oneCell', envOf, aResL, aOne, ↓reduceIte, reduceCtorEq, forall_const, Nat.reduceLT, Nat.reduceEqDiff, Nat.reduceAdd, Nat.reduceMul, Nat.reduceSub, Nat.reduceLeDiff, Nat.reduceBEq, eq_self, implies_true, ne_eq, dref, dref1, dref2, aExecS, aStoreB, aTakes, aTakeE, aElder, aFrom, aFresh, isLoad, aBuildSlice1, frzs, frz1, ownIds, AV.frz, AV.frzL, frzEnv, AV.shift, AV.shiftL, aFieldV, aSliceW, aSliceO, aSlice, aSliceR, aSliceS, aBd, aMax, frzAVs, frzAV, frzTab, AObj.frz, aMM, aNilS, aMay, tyE_22, tyK_22, tyK_3, tyA_9, tyS_9, tyK_45, tyK_9, tyR_23, row_at, hlt, hx, b1, b2, List.length_map, List.length_cons] | (with_reducible refine aIf_split (fun _ => ?_) (fun _ => ?_)) | (with_reducible refine aSel_split (fun _ => ?_) (fun _ => ?_)) | (with_reducible refine aGd_split (fun _ => ?_) (fun _ => ?_)) | (with_reducible refine aDraw_quiet (by kernel_rfl) ?_) | ((with_reducible apply callT); exact (hr); exact (.inl (by simp [roL, roA, treeL, treeC]))) | ((with_reducible apply callV); exact (hp)) | ((with_reducible apply callD); exact (hp)) | (with_reducible apply And.intro)))
    all_goals first
      | rfl
      | omega
      | exact roundI (weak_ren1 [2] ⟨(by decide), (by (first | ((simp only [envInR, tabInR, envLt, tabLt, AObj.lt, AV.lt, AV.ltL, AV.ren, AV.renL, AObj.ren, List.getD_cons_zero, List.getD_cons_succ, List.length_cons, List.length_nil, ruW, ASt.get, aget, ASt.put, ↓reduceIte, reduceCtorEq, Nat.reduceLT, Nat.reduceEqDiff, Nat.reduceAdd, Nat.reduceLeDiff, eq_self, implies_true, hsn, List.cons_append]) <;> (repeat' apply And.intro) <;> first | (rw [wrapK (by omega)]; done) | (simp; done) | omega) | fail))⟩) ⟨k + 1, by omega, rfl⟩ (by simp only [slotN, ruW, ASt.get, aget, ASt.put, ↓reduceIte, reduceCtorEq, Nat.reduceLT, Nat.reduceEqDiff, Nat.reduceAdd, Nat.reduceLeDiff, eq_self, implies_true]; omega)
      | trace_state
  · have hbad := hbk (by omega)
    have hbad2 : ¬ ((readL (byL x)).2 = 0 ∧ itoaB (readL (byL x)).1 = x) := fun h => by rw [goodW_iff.2 h] at hbad; cases hbad
    rw [hnw] at hr hp hbad2
    generalize (readL (byL x)).2 = e at *
    generalize numW x = n at *
    clear hg hgk hsz hbk hb1 hb2 hbad hnw
    by_cases he : e = 0
    · subst he
      have b1 : ((0 : Int) != 0) = false := rfl
      have b2 : (!(itoaB n == x)) = true := by
        rw [bs_beq]
        simpa using fun h => hbad2 ⟨rfl, h⟩
      generalize itoaB n = y at *
      clear hbad2
      (repeat' (first | simp (maxSteps := 5000000) (implicitDefEqProofs := false) only [ruA, ruB, aEv, aTake, aLoad, aField, aIndex, aLen, aBin, bin2, aUn, un1, aExtract, aConv, ASt.get, aget, ASt.put, aStore, aBox, aAppend, aBuildSlice, aMake, aBuild, aFill, oneParts, allC, aBinS, yv, aCells, oneC, oneCL, treeC, treeL, aLit, aDst, aSrc, appTab, Value.cells, Value.oneCell', envOf, aResL, aOne, ↓reduceIte, reduceCtorEq, forall_const, Nat.reduceLT, Nat.reduceEqDiff, Nat.reduceAdd, Nat.reduceMul, Nat.reduceSub, Nat.reduceLeDiff, Nat.reduceBEq, eq_self, implies_true, ne_eq, dref, dref1, dref2, aExecS, aStoreB, aTakes, aTakeE, aElder, aFrom, aFresh, isLoad, aBuildSlice1, frzs, frz1, ownIds, AV.frz, AV.frzL, frzEnv, AV.shift, AV.shiftL, aFieldV, aSliceW, aSliceO, aSlice, aSliceR, aSliceS, aBd, aMax, frzAVs, frzAV, frzTab, AObj.frz, aMM, aNilS, aMay, tyE_22, tyK_22, tyK_3, tyA_9, tyS_9, tyK_45, tyK_9, tyR_23, row_at, hlt, hx, b1, b2, List.length_map, List.length_cons] | (with_reducible refine aIf_split (fun _ => ?_) (fun _ => ?_)) | (with_reducible refine aSel_split (fun _ => ?_) (fun _ => ?_)) | (with_reducible refine aGd_split (fun _ => ?_) (fun _ => ?_)) | (with_reducible refine aDraw_quiet (by kernel_rfl) ?_) | ((with_reducible apply callT); exact (hr); exact (.inl (by simp [roL, roA, treeL, treeC]))) | ((with_reducible apply callV); exact (hp)) | ((with_reducible apply callD); exact (hp)) | (with_reducible apply And.intro)))
      all_goals first
        | exact ⟨[], by simp, rfl, trivial⟩
        | trace_state
    · have b1 : (e != 0) = true := by simpa using he
      clear hbad2
      (repeat' (first | simp (maxSteps := 5000000) (implicitDefEqProofs := false) only [ruA, ruB, aEv, aTake, aLoad, aField, aIndex, aLen, aBin, bin2, aUn, un1, aExtract, aConv, ASt.get, aget, ASt.put, aStore, aBox, aAppend, aBuildSlice, aMake, aBuild, aFill, oneParts, allC, aBinS, yv, aCells, oneC, oneCL, treeC, treeL, aLit, aDst, aSrc, appTab, Value.cells, Value.oneCell', envOf, aResL, aOne, ↓reduceIte, reduceCtorEq, forall_const, Nat.reduceLT, Nat.reduceEqDiff, Nat.reduceAdd, Nat.reduceMul, Nat.reduceSub, Nat.reduceLeDiff, Nat.reduceBEq, eq_self, implies_true, ne_eq, dref, dref1, dref2, aExecS, aStoreB, aTakes, aTakeE, aElder, aFrom, aFresh, isLoad, aBuildSlice1, frzs, frz1, ownIds, AV.frz, AV.frzL, frzEnv, AV.shift, AV.shiftL, aFieldV, aSliceW, aSliceO, aSlice, aSliceR, aSliceS, aBd, aMax, frzAVs, frzAV, frzTab, AObj.frz, aMM, aNilS, aMay, tyE_22, tyK_22, tyK_3, tyA_9, tyS_9, tyK_45, tyK_9, tyR_23, row_at, hlt, hx, b1, List.length_map, List.length_cons] | (with_reducible refine aIf_split (fun _ => ?_) (fun _ => ?_)) | (with_reducible refine aSel_split (fun _ => ?_) (fun _ => ?_)) | (with_reducible refine aGd_split (fun _ => ?_) (fun _ => ?_)) | (with_reducible refine aDraw_quiet (by kernel_rfl) ?_) | ((with_reducible apply callT); exact (hr); exact (.inl (by simp [roL, roA, treeL, treeC]))) | ((with_reducible apply callV); exact (hp)) | ((with_reducible apply callD); exact (hp)) | (with_reducible apply And.intro)))
      all_goals first
        | exact ⟨[], by simp, rfl, trivial⟩
        | trace_state
theorem numbers_A (t : ByteArray) (ht : t.size ≤ 100000) : ADet Tryd.prog 32 [eS t] ⟨numsAV t, [], 0⟩ := by
  unfold numsAV
  split
  · rename_i h
    exact ADet.still [0] (numbersG_A t ht h) rfl ⟨trivial, trivial, trivial⟩
  · rename_i h
    exact numbersB_A t ht h
/-- the state that a text tells, and the error -/
def rdP (t : ByteArray) : St × Int := if (numsP t).2 = true then readP (numsP t).1 else (st0, 17)
def rdAV (p : St × Int) : AV := if p.2 = 0 then .tup [.agg (eSt p.1), eI 0] else .tup [.agg [nilV, eI 0, eI 0, nilV, nilV], eI p.2]
theorem rdAV_lt (p : St × Int) : (⟨rdAV p, [], 0⟩ : Res).Ok := ⟨fun id o h => (by cases h), by
  unfold rdAV
  split
  · exact ⟨⟨trivial, trivial, trivial, trivial, trivial, trivial⟩, trivial, trivial⟩
  · exact ⟨⟨trivial, trivial, trivial, trivial, trivial, trivial⟩, trivial, trivial⟩⟩
theorem listP_len (l : List Int) : (listP l).1.length ≤ l.length ∧ (listP l).2.1.length ≤ l.length := by
  unfold listP
  split
  · exact ⟨Nat.le_refl _, Nat.le_refl _⟩
  · rename_i n l
    split
    · exact ⟨Nat.zero_le _, Nat.zero_le _⟩
    · split
      · exact ⟨Nat.zero_le _, Nat.zero_le _⟩
      · split
        · exact ⟨Nat.zero_le _, Nat.zero_le _⟩
        · simp
          omega
set_option maxRecDepth 100000 in
set_option maxHeartbeats 16000000 in
theorem read_A (t : ByteArray) (ht : t.size ≤ 100000) : ADet Tryd.prog 16 [eS t] ⟨rdAV (rdP t), [], 0⟩ := by
  have hN := numbers_A t ht
  have hle := wordsB_le t
  by_cases hg : (wordsB t).all goodW = true
  · have hR : rdP t = readP ((wordsB t).map numW) := by
      unfold rdP numsP
      rw [if_pos hg]
      rfl
    have hNA : numsAV t = .tup [sI ((wordsB t).map numW), eB true] := by unfold numsAV; rw [if_pos hg]
    rw [hR]
    rw [hNA] at hN
    have hLl : ((wordsB t).map numW).length ≤ 100001 := by rw [List.length_map]; omega
    generalize (wordsB t).map numW = L at *
    obtain ⟨F, hF⟩ : ∃ F, F = readP L := ⟨_, rfl⟩
    rw [← hF]
    refine adet_of_code mixedT Tryd.func16 rfl (by decide) Tryd.ntmps16 Tryd.results16 rfl (rdAV_lt _) ?_
    clear hR hNA hg hle
    (repeat' (first | simp (maxSteps := 5000000) (implicitDefEqProofs := false) only [ruA, ruB, aEv, aTake, aLoad, aField, aIndex, aLen, aBin, bin2, aUn, un1, aExtract, aConv, ASt.get, aget, ASt.put, aStore, aBox, aAppend, aBuildSlice, aMake, aBuild, aFill, oneParts, allC, aBinS, yv, aCells, oneC, oneCL, treeC, treeL, aLit, aDst, aSrc, appTab, Value.cells, Value.oneCell', envOf, aResL, aOne, ↓reduceIte, reduceCtorEq, forall_const, Nat.reduceLT, Nat.reduceEqDiff, Nat.reduceAdd, Nat.reduceMul, Nat.reduceSub, Nat.reduceLeDiff, Nat.reduceBEq, eq_self, implies_true, ne_eq, dref, dref1, dref2, aExecS, aStoreB, aTakes, aTakeE, aElder, aFrom, aFresh, isLoad, aBuildSlice1, frzs, frz1, ownIds, AV.frz, AV.frzL, frzEnv, AV.shift, AV.shiftL, aFieldV, aSliceW, aSliceO, aSlice, aSliceR, aSliceS, aBd, aMax, frzAVs, frzAV, frzTab, AObj.frz, aMM, aNilS, aMay, tyA_41, tyS_41, tyZ_41, tyK_3, tyE_23, tyK_23, tyB_41, tyA_2, tyS_2, tyF_41_1, tyS_3, tyF_41_2, tyK_45, tyF_41_0, tyS_23, tyF_41_3, tyS_33, tyF_41_4] | (with_reducible refine aIf_split (fun _ => ?_) (fun _ => ?_)) | (with_reducible refine aSel_split (fun _ => ?_) (fun _ => ?_)) | (with_reducible refine aGd_split (fun _ => ?_) (fun _ => ?_)) | (with_reducible refine aDraw_quiet (by kernel_rfl) ?_) | ((with_reducible apply callT); exact (hN); exact (.inl (by simp [roL, roA, treeL, treeC])))))
    refine aLoop_of (fun st => ∃ l : List Int, l.length ≤ 100001 ∧ ((F = readP l ∧ st = ⟨69, [(2, .op 0 0 0), (4, .op 1 0 0), (5, sI l), (19, eI 0)], [(0, some (.box 41 [nilV, eI 0, eI 0, nilV, nilV])), (1, some (.box 41 [nilV, eI 0, eI 0, nilV, nilV]))], 2⟩)
      ∨ (∃ v, F = read1 { st0 with vals := v } l ∧ st = ⟨69, [(2, .op 0 0 0), (4, .op 1 0 0), (5, sI l), (19, eI 1)], [(0, some (.box 41 [nilV, eI 0, eI 0, nilV, nilV])), (1, some (.box 41 [sI v, eI 0, eI 0, nilV, nilV]))], 2⟩)
      ∨ (∃ v o d, F = read2 ⟨v, o, d, [], []⟩ l ∧ st = ⟨69, [(2, .op 0 0 0), (4, .op 1 0 0), (5, sI l), (19, eI 2)], [(0, some (.box 41 [nilV, eI 0, eI 0, nilV, nilV])), (1, some (.box 41 [sI v, eI o, eI d, nilV, nilV]))], 2⟩)
      ∨ (∃ v o d i, F = read3 ⟨v, o, d, i, []⟩ l ∧ st = ⟨69, [(2, .op 0 0 0), (4, .op 1 0 0), (5, sI l), (19, eI 3)], [(0, some (.box 41 [nilV, eI 0, eI 0, nilV, nilV])), (1, some (.box 41 [sI v, eI o, eI d, sI i, nilV]))], 2⟩))) (fun st => 4 - slotN st 19) ⟨_, (weak_cut1 (by (first | ((simp only [envIn, tabIn, envLt, tabLt, AObj.lt, AV.lt, AV.ltL, ruW, ASt.get, aget, ASt.put, ↓reduceIte, reduceCtorEq, Nat.reduceLT, Nat.reduceEqDiff, Nat.reduceAdd, Nat.reduceLeDiff, eq_self, implies_true]) <;> (repeat' apply And.intro) <;> first | (rw [wrapK (by omega)]; done) | (simp; done) | omega) | fail))), L, hLl, .inl ⟨hF, rfl⟩⟩ ?_
    have w01 : IntKind.i64.wrap 1 = 1 := rfl
    have w12 : IntKind.i64.wrap 2 = 2 := rfl
    have w23 : IntKind.i64.wrap 3 = 3 := rfl
    rintro _ ⟨l, hl, ⟨hFl, rfl⟩ | ⟨v, hFl, rfl⟩ | ⟨v, o, d, hFl, rfl⟩ | ⟨v, o, d, i, hFl, rfl⟩⟩
    · have hL := list_A l (by omega)
      have hln := listP_len l
      unfold listAV at hL
      unfold readP at hFl
      by_cases he : (listP l).2.2 = 0
      · rw [if_pos he] at hL
        rw [if_neg (by simp [he])] at hFl
        generalize (listP l).1 = x at *
        generalize (listP l).2.1 = r at *
        have hC := clone64_A x (by omega)
        clear he hF
        (repeat' (first | simp (maxSteps := 5000000) (implicitDefEqProofs := false) only [ruA, ruB, aEv, aTake, aLoad, aField, aIndex, aLen, aBin, bin2, aUn, un1, aExtract, aConv, ASt.get, aget, ASt.put, aStore, aBox, aAppend, aBuildSlice, aMake, aBuild, aFill, oneParts, allC, aBinS, yv, aCells, oneC, oneCL, treeC, treeL, aLit, aDst, aSrc, appTab, Value.cells, Value.oneCell', envOf, aResL, aOne, ↓reduceIte, reduceCtorEq, forall_const, Nat.reduceLT, Nat.reduceEqDiff, Nat.reduceAdd, Nat.reduceMul, Nat.reduceSub, Nat.reduceLeDiff, Nat.reduceBEq, eq_self, implies_true, ne_eq, dref, dref1, dref2, aExecS, aStoreB, aTakes, aTakeE, aElder, aFrom, aFresh, isLoad, aBuildSlice1, frzs, frz1, ownIds, AV.frz, AV.frzL, frzEnv, AV.shift, AV.shiftL, aFieldV, aSliceW, aSliceO, aSlice, aSliceR, aSliceS, aBd, aMax, frzAVs, frzAV, frzTab, AObj.frz, aMM, aNilS, aMay, tyA_41, tyS_41, tyZ_41, tyK_3, tyE_23, tyK_23, tyB_41, tyA_2, tyS_2, tyF_41_1, tyS_3, tyF_41_2, tyK_45, tyF_41_0, tyS_23, tyF_41_3, tyS_33, tyF_41_4, Int.reduceLT, Int.reduceLE, Int.reduceBEq, Int.reduceBNe, Int.reduceAdd, Int.reduceToNat, w01, w12, w23] | (with_reducible refine aIf_split (fun _ => ?_) (fun _ => ?_)) | (with_reducible refine aSel_split (fun _ => ?_) (fun _ => ?_)) | (with_reducible refine aGd_split (fun _ => ?_) (fun _ => ?_)) | (with_reducible refine aDraw_quiet (by kernel_rfl) ?_) | ((with_reducible apply callT); exact (hL); exact (.inl (by simp [roL, roA, treeL, treeC]))) | ((with_reducible apply callT); exact (hC); exact (.inl (by simp [roL, roA, treeL, treeC])))))
        all_goals first
          | exact roundI (weak_cut1 (by (first | ((simp only [envIn, tabIn, envLt, tabLt, AObj.lt, AV.lt, AV.ltL, ruW, ASt.get, aget, ASt.put, ↓reduceIte, reduceCtorEq, Nat.reduceLT, Nat.reduceEqDiff, Nat.reduceAdd, Nat.reduceLeDiff, eq_self, implies_true]) <;> (repeat' apply And.intro) <;> first | (rw [wrapK (by omega)]; done) | (simp; done) | omega) | fail))) ⟨r, by omega, .inr (.inl ⟨x, hFl, rfl⟩)⟩ (by simp only [slotN, ruW, ASt.get, aget, ASt.put, ↓reduceIte, reduceCtorEq, Nat.reduceLT, Nat.reduceEqDiff, Nat.reduceAdd, Nat.reduceLeDiff, eq_self, implies_true]; omega)
          | trace_state
      · rw [if_neg he] at hL
        rw [if_pos he] at hFl
        generalize (listP l).2.2 = e at *
        have b1 : (e != 0) = true := by simpa using he
        have hRR : rdAV F = .tup [.agg [nilV, eI 0, eI 0, nilV, nilV], eI e] := by rw [hFl]; unfold rdAV; rw [if_neg he]
        rw [hRR]
        clear he hF hFl hRR
        (repeat' (first | simp (maxSteps := 5000000) (implicitDefEqProofs := false) only [ruA, ruB, aEv, aTake, aLoad, aField, aIndex, aLen, aBin, bin2, aUn, un1, aExtract, aConv, ASt.get, aget, ASt.put, aStore, aBox, aAppend, aBuildSlice, aMake, aBuild, aFill, oneParts, allC, aBinS, yv, aCells, oneC, oneCL, treeC, treeL, aLit, aDst, aSrc, appTab, Value.cells, Value.oneCell', envOf, aResL, aOne, ↓reduceIte, reduceCtorEq, forall_const, Nat.reduceLT, Nat.reduceEqDiff, Nat.reduceAdd, Nat.reduceMul, Nat.reduceSub, Nat.reduceLeDiff, Nat.reduceBEq, eq_self, implies_true, ne_eq, dref, dref1, dref2, aExecS, aStoreB, aTakes, aTakeE, aElder, aFrom, aFresh, isLoad, aBuildSlice1, frzs, frz1, ownIds, AV.frz, AV.frzL, frzEnv, AV.shift, AV.shiftL, aFieldV, aSliceW, aSliceO, aSlice, aSliceR, aSliceS, aBd, aMax, frzAVs, frzAV, frzTab, AObj.frz, aMM, aNilS, aMay, tyA_41, tyS_41, tyZ_41, tyK_3, tyE_23, tyK_23, tyB_41, tyA_2, tyS_2, tyF_41_1, tyS_3, tyF_41_2, tyK_45, tyF_41_0, tyS_23, tyF_41_3, tyS_33, tyF_41_4, b1, Int.reduceLT, Int.reduceLE, Int.reduceBEq, Int.reduceBNe, Int.reduceAdd, Int.reduceToNat, w01, w12, w23] | (with_reducible refine aIf_split (fun _ => ?_) (fun _ => ?_)) | (with_reducible refine aSel_split (fun _ => ?_) (fun _ => ?_)) | (with_reducible refine aGd_split (fun _ => ?_) (fun _ => ?_)) | (with_reducible refine aDraw_quiet (by kernel_rfl) ?_) | ((with_reducible apply callT); exact (hL); exact (.inl (by simp [roL, roA, treeL, treeC])))))
        all_goals first
          | exact ⟨[], by simp, rfl, trivial⟩
          | trace_state
    · match l, hl, hFl with
      | [], hl, hFl =>
        have hRR : rdAV F = .tup [.agg [nilV, eI 0, eI 0, nilV, nilV], eI 17] := by rw [hFl]; rfl
        rw [hRR]
        clear hF hFl hRR
        have y0 : decide (((0 : Nat) : Int) < 2) = true := rfl
        have y1 : decide (((1 : Nat) : Int) < 2) = true := rfl
        (repeat' (first | simp (maxSteps := 5000000) (implicitDefEqProofs := false) only [ruA, ruB, aEv, aTake, aLoad, aField, aIndex, aLen, aBin, bin2, aUn, un1, aExtract, aConv, ASt.get, aget, ASt.put, aStore, aBox, aAppend, aBuildSlice, aMake, aBuild, aFill, oneParts, allC, aBinS, yv, aCells, oneC, oneCL, treeC, treeL, aLit, aDst, aSrc, appTab, Value.cells, Value.oneCell', envOf, aResL, aOne, ↓reduceIte, reduceCtorEq, forall_const, Nat.reduceLT, Nat.reduceEqDiff, Nat.reduceAdd, Nat.reduceMul, Nat.reduceSub, Nat.reduceLeDiff, Nat.reduceBEq, eq_self, implies_true, ne_eq, dref, dref1, dref2, aExecS, aStoreB, aTakes, aTakeE, aElder, aFrom, aFresh, isLoad, aBuildSlice1, frzs, frz1, ownIds, AV.frz, AV.frzL, frzEnv, AV.shift, AV.shiftL, aFieldV, aSliceW, aSliceO, aSlice, aSliceR, aSliceS, aBd, aMax, frzAVs, frzAV, frzTab, AObj.frz, aMM, aNilS, aMay, tyA_41, tyS_41, tyZ_41, tyK_3, tyE_23, tyK_23, tyB_41, tyA_2, tyS_2, tyF_41_1, tyS_3, tyF_41_2, tyK_45, tyF_41_0, tyS_23, tyF_41_3, tyS_33, tyF_41_4, y0, y1, Int.reduceLT, Int.reduceLE, Int.reduceBEq, Int.reduceBNe, Int.reduceAdd, Int.reduceToNat, w01, w12, w23] | (with_reducible refine aIf_split (fun _ => ?_) (fun _ => ?_)) | (with_reducible refine aSel_split (fun _ => ?_) (fun _ => ?_)) | (with_reducible refine aGd_split (fun _ => ?_) (fun _ => ?_)) | (with_reducible refine aDraw_quiet (by kernel_rfl) ?_)))
        all_goals first
          | exact ⟨[], by simp, rfl, trivial⟩
          | trace_state
      | [a], hl, hFl =>
        have hRR : rdAV F = .tup [.agg [nilV, eI 0, eI 0, nilV, nilV], eI 17] := by rw [hFl]; rfl
        rw [hRR]
        clear hF hFl hRR
        have y0 : decide (((0 : Nat) : Int) < 2) = true := rfl
        have y1 : decide (((1 : Nat) : Int) < 2) = true := rfl
        (repeat' (first | simp (maxSteps := 5000000) (implicitDefEqProofs := false) only [ruA, ruB, aEv, aTake, aLoad, aField, aIndex, aLen, aBin, bin2, aUn, un1, aExtract, aConv, ASt.get, aget, ASt.put, aStore, aBox, aAppend, aBuildSlice, aMake, aBuild, aFill, oneParts, allC, aBinS, yv, aCells, oneC, oneCL, treeC, treeL, aLit, aDst, aSrc, appTab, Value.cells, Value.oneCell', envOf, aResL, aOne, ↓reduceIte, reduceCtorEq, forall_const, Nat.reduceLT, Nat.reduceEqDiff, Nat.reduceAdd, Nat.reduceMul, Nat.reduceSub, Nat.reduceLeDiff, Nat.reduceBEq, eq_self, implies_true, ne_eq, dref, dref1, dref2, aExecS, aStoreB, aTakes, aTakeE, aElder, aFrom, aFresh, isLoad, aBuildSlice1, frzs, frz1, ownIds, AV.frz, AV.frzL, frzEnv, AV.shift, AV.shiftL, aFieldV, aSliceW, aSliceO, aSlice, aSliceR, aSliceS, aBd, aMax, frzAVs, frzAV, frzTab, AObj.frz, aMM, aNilS, aMay, tyA_41, tyS_41, tyZ_41, tyK_3, tyE_23, tyK_23, tyB_41, tyA_2, tyS_2, tyF_41_1, tyS_3, tyF_41_2, tyK_45, tyF_41_0, tyS_23, tyF_41_3, tyS_33, tyF_41_4, y0, y1, Int.reduceLT, Int.reduceLE, Int.reduceBEq, Int.reduceBNe, Int.reduceAdd, Int.reduceToNat, w01, w12, w23] | (with_reducible refine aIf_split (fun _ => ?_) (fun _ => ?_)) | (with_reducible refine aSel_split (fun _ => ?_) (fun _ => ?_)) | (with_reducible refine aGd_split (fun _ => ?_) (fun _ => ?_)) | (with_reducible refine aDraw_quiet (by kernel_rfl) ?_)))
        all_goals first
          | exact ⟨[], by simp, rfl, trivial⟩
          | trace_state
      | o :: d :: r, hl, hFl =>
        have hFr : F = read2 ⟨v, o, d, [], []⟩ r := hFl
        have d1 : decide (((r.length + 1 + 1 : Nat) : Int) < 2) = false := decide_eq_false (by omega)
        clear hF hFl
        have p0 : (0 : Int) < ((r.length + 1 + 1 : Nat) : Int) := by omega
        have p1 : (1 : Int) < ((r.length + 1 + 1 : Nat) : Int) := by omega
        have p2 : (2 : Int) ≤ ((r.length + 1 + 1 : Nat) : Int) := by omega
        have m0 : (r.map fun n : Int => [eI n]).take r.length = r.map fun n => [eI n] := List.take_of_length_le (by simp)
        simp only [List.length_cons] at hl
        (repeat' (first | simp (maxSteps := 5000000) (implicitDefEqProofs := false) only [ruA, ruB, aEv, aTake, aLoad, aField, aIndex, aLen, aBin, bin2, aUn, un1, aExtract, aConv, ASt.get, aget, ASt.put, aStore, aBox, aAppend, aBuildSlice, aMake, aBuild, aFill, oneParts, allC, aBinS, yv, aCells, oneC, oneCL, treeC, treeL, aLit, aDst, aSrc, appTab, Value.cells, Value.oneCell', envOf, aResL, aOne, ↓reduceIte, reduceCtorEq, forall_const, Nat.reduceLT, Nat.reduceEqDiff, Nat.reduceAdd, Nat.reduceMul, Nat.reduceSub, Nat.reduceLeDiff, Nat.reduceBEq, eq_self, implies_true, ne_eq, dref, dref1, dref2, aExecS, aStoreB, aTakes, aTakeE, aElder, aFrom, aFresh, isLoad, aBuildSlice1, frzs, frz1, ownIds, AV.frz, AV.frzL, frzEnv, AV.shift, AV.shiftL, aFieldV, aSliceW, aSliceO, aSlice, aSliceR, aSliceS, aBd, aMax, frzAVs, frzAV, frzTab, AObj.frz, aMM, aNilS, aMay, tyA_41, tyS_41, tyZ_41, tyK_3, tyE_23, tyK_23, tyB_41, tyA_2, tyS_2, tyF_41_1, tyS_3, tyF_41_2, tyK_45, tyF_41_0, tyS_23, tyF_41_3, tyS_33, tyF_41_4, d1, List.length_map, Int.reduceLT, Int.reduceLE, Int.reduceBEq, Int.reduceBNe, Int.reduceAdd, Int.reduceToNat, w01, w12, w23] | (with_reducible refine aIf_split (fun _ => ?_) (fun _ => ?_)) | (with_reducible refine aSel_split (fun _ => ?_) (fun _ => ?_)) | (with_reducible refine aGd_split (fun _ => ?_) (fun _ => ?_))))
        refine aDraw_held [1] [0, 1, 2, 3, 4, 5, 6] (.exec 7 (.take 8 (.exec 9 .done))) (by kernel_rfl) (by simp [ATab.get_cons]) ?_
        (repeat' (first | simp (maxSteps := 5000000) (implicitDefEqProofs := false) only [ruA, ruB, aEv, aTake, aLoad, aField, aIndex, aLen, aBin, bin2, aUn, un1, aExtract, aConv, ASt.get, aget, ASt.put, aStore, aBox, aAppend, aBuildSlice, aMake, aBuild, aFill, oneParts, allC, aBinS, yv, aCells, oneC, oneCL, treeC, treeL, aLit, aDst, aSrc, appTab, Value.cells, Value.oneCell', envOf, aResL, aOne, ↓reduceIte, reduceCtorEq, forall_const, Nat.reduceLT, Nat.reduceEqDiff, Nat.reduceAdd, Nat.reduceMul, Nat.reduceSub, Nat.reduceLeDiff, Nat.reduceBEq, eq_self, implies_true, ne_eq, dref, dref1, dref2, aExecS, aStoreB, aTakes, aTakeE, aElder, aFrom, aFresh, isLoad, aBuildSlice1, frzs, frz1, ownIds, AV.frz, AV.frzL, frzEnv, AV.shift, AV.shiftL, aFieldV, aSliceW, aSliceO, aSlice, aSliceR, aSliceS, aBd, aMax, frzAVs, frzAV, frzTab, AObj.frz, aMM, aNilS, aMay, tyA_41, tyS_41, tyZ_41, tyK_3, tyE_23, tyK_23, tyB_41, tyA_2, tyS_2, tyF_41_1, tyS_3, tyF_41_2, tyK_45, tyF_41_0, tyS_23, tyF_41_3, tyS_33, tyF_41_4, d1, p0, p1, p2, m0, Int.reduceLT, Int.reduceLE, Int.reduceBEq, Int.reduceBNe, Int.reduceAdd, Int.reduceToNat, w01, w12, w23] | (with_reducible refine aIf_split (fun _ => ?_) (fun _ => ?_)) | (with_reducible refine aSel_split (fun _ => ?_) (fun _ => ?_)) | (with_reducible refine aGd_split (fun _ => ?_) (fun _ => ?_)) | (with_reducible refine aDraw_quiet (by kernel_rfl) ?_)))
        all_goals first
          | exact roundI (weak_cut1 (by (first | ((simp only [envIn, tabIn, envLt, tabLt, AObj.lt, AV.lt, AV.ltL, ruW, ASt.get, aget, ASt.put, ↓reduceIte, reduceCtorEq, Nat.reduceLT, Nat.reduceEqDiff, Nat.reduceAdd, Nat.reduceLeDiff, eq_self, implies_true]) <;> (repeat' apply And.intro) <;> first | (rw [wrapK (by omega)]; done) | (simp; done) | omega) | fail))) ⟨r, by omega, .inr (.inr (.inl ⟨v, o, d, hFr, rfl⟩))⟩ (by simp only [slotN, ruW, ASt.get, aget, ASt.put, ↓reduceIte, reduceCtorEq, Nat.reduceLT, Nat.reduceEqDiff, Nat.reduceAdd, Nat.reduceLeDiff, eq_self, implies_true]; omega)
          | trace_state
    · have hL := list_A l (by omega)
      have hln := listP_len l
      unfold listAV at hL
      unfold read2 at hFl
      by_cases he : (listP l).2.2 = 0
      · rw [if_pos he] at hL
        rw [if_neg (by simp [he])] at hFl
        generalize (listP l).1 = x at *
        generalize (listP l).2.1 = r at *
        have hC := ints_A x (by omega)
        clear he hF
        (repeat' (first | simp (maxSteps := 5000000) (implicitDefEqProofs := false) only [ruA, ruB, aEv, aTake, aLoad, aField, aIndex, aLen, aBin, bin2, aUn, un1, aExtract, aConv, ASt.get, aget, ASt.put, aStore, aBox, aAppend, aBuildSlice, aMake, aBuild, aFill, oneParts, allC, aBinS, yv, aCells, oneC, oneCL, treeC, treeL, aLit, aDst, aSrc, appTab, Value.cells, Value.oneCell', envOf, aResL, aOne, ↓reduceIte, reduceCtorEq, forall_const, Nat.reduceLT, Nat.reduceEqDiff, Nat.reduceAdd, Nat.reduceMul, Nat.reduceSub, Nat.reduceLeDiff, Nat.reduceBEq, eq_self, implies_true, ne_eq, dref, dref1, dref2, aExecS, aStoreB, aTakes, aTakeE, aElder, aFrom, aFresh, isLoad, aBuildSlice1, frzs, frz1, ownIds, AV.frz, AV.frzL, frzEnv, AV.shift, AV.shiftL, aFieldV, aSliceW, aSliceO, aSlice, aSliceR, aSliceS, aBd, aMax, frzAVs, frzAV, frzTab, AObj.frz, aMM, aNilS, aMay, tyA_41, tyS_41, tyZ_41, tyK_3, tyE_23, tyK_23, tyB_41, tyA_2, tyS_2, tyF_41_1, tyS_3, tyF_41_2, tyK_45, tyF_41_0, tyS_23, tyF_41_3, tyS_33, tyF_41_4, Int.reduceLT, Int.reduceLE, Int.reduceBEq, Int.reduceBNe, Int.reduceAdd, Int.reduceToNat, w01, w12, w23] | (with_reducible refine aIf_split (fun _ => ?_) (fun _ => ?_)) | (with_reducible refine aSel_split (fun _ => ?_) (fun _ => ?_)) | (with_reducible refine aGd_split (fun _ => ?_) (fun _ => ?_)) | (with_reducible refine aDraw_quiet (by kernel_rfl) ?_) | ((with_reducible apply callT); exact (hL); exact (.inl (by simp [roL, roA, treeL, treeC]))) | ((with_reducible apply callT); exact (hC); exact (.inl (by simp [roL, roA, treeL, treeC])))))
        all_goals first
          | exact roundI (weak_cut1 (by (first | ((simp only [envIn, tabIn, envLt, tabLt, AObj.lt, AV.lt, AV.ltL, ruW, ASt.get, aget, ASt.put, ↓reduceIte, reduceCtorEq, Nat.reduceLT, Nat.reduceEqDiff, Nat.reduceAdd, Nat.reduceLeDiff, eq_self, implies_true]) <;> (repeat' apply And.intro) <;> first | (rw [wrapK (by omega)]; done) | (simp; done) | omega) | fail))) ⟨r, by omega, .inr (.inr (.inr ⟨v, o, d, x, hFl, rfl⟩))⟩ (by simp only [slotN, ruW, ASt.get, aget, ASt.put, ↓reduceIte, reduceCtorEq, Nat.reduceLT, Nat.reduceEqDiff, Nat.reduceAdd, Nat.reduceLeDiff, eq_self, implies_true]; omega)
          | trace_state
      · rw [if_neg he] at hL
        rw [if_pos he] at hFl
        generalize (listP l).2.2 = e at *
        have b1 : (e != 0) = true := by simpa using he
        have hRR : rdAV F = .tup [.agg [nilV, eI 0, eI 0, nilV, nilV], eI e] := by rw [hFl]; unfold rdAV; rw [if_neg he]
        rw [hRR]
        clear he hF hFl hRR
        (repeat' (first | simp (maxSteps := 5000000) (implicitDefEqProofs := false) only [ruA, ruB, aEv, aTake, aLoad, aField, aIndex, aLen, aBin, bin2, aUn, un1, aExtract, aConv, ASt.get, aget, ASt.put, aStore, aBox, aAppend, aBuildSlice, aMake, aBuild, aFill, oneParts, allC, aBinS, yv, aCells, oneC, oneCL, treeC, treeL, aLit, aDst, aSrc, appTab, Value.cells, Value.oneCell', envOf, aResL, aOne, ↓reduceIte, reduceCtorEq, forall_const, Nat.reduceLT, Nat.reduceEqDiff, Nat.reduceAdd, Nat.reduceMul, Nat.reduceSub, Nat.reduceLeDiff, Nat.reduceBEq, eq_self, implies_true, ne_eq, dref, dref1, dref2, aExecS, aStoreB, aTakes, aTakeE, aElder, aFrom, aFresh, isLoad, aBuildSlice1, frzs, frz1, ownIds, AV.frz, AV.frzL, frzEnv, AV.shift, AV.shiftL, aFieldV, aSliceW, aSliceO, aSlice, aSliceR, aSliceS, aBd, aMax, frzAVs, frzAV, frzTab, AObj.frz, aMM, aNilS, aMay, tyA_41, tyS_41, tyZ_41, tyK_3, tyE_23, tyK_23, tyB_41, tyA_2, tyS_2, tyF_41_1, tyS_3, tyF_41_2, tyK_45, tyF_41_0, tyS_23, tyF_41_3, tyS_33, tyF_41_4, b1, Int.reduceLT, Int.reduceLE, Int.reduceBEq, Int.reduceBNe, Int.reduceAdd, Int.reduceToNat, w01, w12, w23] | (with_reducible refine aIf_split (fun _ => ?_) (fun _ => ?_)) | (with_reducible refine aSel_split (fun _ => ?_) (fun _ => ?_)) | (with_reducible refine aGd_split (fun _ => ?_) (fun _ => ?_)) | (with_reducible refine aDraw_quiet (by kernel_rfl) ?_) | ((with_reducible apply callT); exact (hL); exact (.inl (by simp [roL, roA, treeL, treeC])))))
        all_goals first
          | exact ⟨[], by simp, rfl, trivial⟩
          | trace_state
    · have hL := list_A l (by omega)
      have hln := listP_len l
      unfold listAV at hL
      unfold read3 at hFl
      by_cases he : (listP l).2.2 = 0
      · rw [if_pos he] at hL
        rw [if_neg (by simp [he])] at hFl
        generalize (listP l).1 = x at *
        generalize (listP l).2.1 = r at *
        have hC := ints_A x (by omega)
        clear he hF
        cases r with
        | nil =>
          have hRR : rdAV F = .tup [.agg [sI v, eI o, eI d, sI i, sI x], eI 0] := by rw [hFl]; rfl
          rw [hRR]
          have y0 : decide (0 < ((0 : Nat) : Int)) = false := rfl
          clear hFl hRR
          (repeat' (first | simp (maxSteps := 5000000) (implicitDefEqProofs := false) only [ruA, ruB, aEv, aTake, aLoad, aField, aIndex, aLen, aBin, bin2, aUn, un1, aExtract, aConv, ASt.get, aget, ASt.put, aStore, aBox, aAppend, aBuildSlice, aMake, aBuild, aFill, oneParts, allC, aBinS, yv, aCells, oneC, oneCL, treeC, treeL, aLit, aDst, aSrc, appTab, Value.cells, Value.oneCell', envOf, aResL, aOne, ↓reduceIte, reduceCtorEq, forall_const, Nat.reduceLT, Nat.reduceEqDiff, Nat.reduceAdd, Nat.reduceMul, Nat.reduceSub, Nat.reduceLeDiff, Nat.reduceBEq, eq_self, implies_true, ne_eq, dref, dref1, dref2, aExecS, aStoreB, aTakes, aTakeE, aElder, aFrom, aFresh, isLoad, aBuildSlice1, frzs, frz1, ownIds, AV.frz, AV.frzL, frzEnv, AV.shift, AV.shiftL, aFieldV, aSliceW, aSliceO, aSlice, aSliceR, aSliceS, aBd, aMax, frzAVs, frzAV, frzTab, AObj.frz, aMM, aNilS, aMay, tyA_41, tyS_41, tyZ_41, tyK_3, tyE_23, tyK_23, tyB_41, tyA_2, tyS_2, tyF_41_1, tyS_3, tyF_41_2, tyK_45, tyF_41_0, tyS_23, tyF_41_3, tyS_33, tyF_41_4, y0, Int.reduceLT, Int.reduceLE, Int.reduceBEq, Int.reduceBNe, Int.reduceAdd, Int.reduceToNat, w01, w12, w23] | (with_reducible refine aIf_split (fun _ => ?_) (fun _ => ?_)) | (with_reducible refine aSel_split (fun _ => ?_) (fun _ => ?_)) | (with_reducible refine aGd_split (fun _ => ?_) (fun _ => ?_)) | (with_reducible refine aDraw_quiet (by kernel_rfl) ?_) | ((with_reducible apply callT); exact (hL); exact (.inl (by simp [roL, roA, treeL, treeC]))) | ((with_reducible apply callT); exact (hC); exact (.inl (by simp [roL, roA, treeL, treeC])))))
          all_goals first
            | exact ⟨[], by simp, rfl, trivial⟩
            | trace_state
        | cons a r =>
          have hRR : rdAV F = .tup [.agg [nilV, eI 0, eI 0, nilV, nilV], eI 17] := by rw [hFl]; rfl
          rw [hRR]
          have y0 : decide (0 < ((r.length + 1 : Nat) : Int)) = true := decide_eq_true (by omega)
          clear hFl hRR
          (repeat' (first | simp (maxSteps := 5000000) (implicitDefEqProofs := false) only [ruA, ruB, aEv, aTake, aLoad, aField, aIndex, aLen, aBin, bin2, aUn, un1, aExtract, aConv, ASt.get, aget, ASt.put, aStore, aBox, aAppend, aBuildSlice, aMake, aBuild, aFill, oneParts, allC, aBinS, yv, aCells, oneC, oneCL, treeC, treeL, aLit, aDst, aSrc, appTab, Value.cells, Value.oneCell', envOf, aResL, aOne, ↓reduceIte, reduceCtorEq, forall_const, Nat.reduceLT, Nat.reduceEqDiff, Nat.reduceAdd, Nat.reduceMul, Nat.reduceSub, Nat.reduceLeDiff, Nat.reduceBEq, eq_self, implies_true, ne_eq, dref, dref1, dref2, aExecS, aStoreB, aTakes, aTakeE, aElder, aFrom, aFresh, isLoad, aBuildSlice1, frzs, frz1, ownIds, AV.frz, AV.frzL, frzEnv, AV.shift, AV.shiftL, aFieldV, aSliceW, aSliceO, aSlice, aSliceR, aSliceS, aBd, aMax, frzAVs, frzAV, frzTab, AObj.frz, aMM, aNilS, aMay, tyA_41, tyS_41, tyZ_41, tyK_3, tyE_23, tyK_23, tyB_41, tyA_2, tyS_2, tyF_41_1, tyS_3, tyF_41_2, tyK_45, tyF_41_0, tyS_23, tyF_41_3, tyS_33, tyF_41_4, y0, List.length_map, Int.reduceLT, Int.reduceLE, Int.reduceBEq, Int.reduceBNe, Int.reduceAdd, Int.reduceToNat, w01, w12, w23] | (with_reducible refine aIf_split (fun _ => ?_) (fun _ => ?_)) | (with_reducible refine aSel_split (fun _ => ?_) (fun _ => ?_)) | (with_reducible refine aGd_split (fun _ => ?_) (fun _ => ?_)) | (with_reducible refine aDraw_quiet (by kernel_rfl) ?_) | ((with_reducible apply callT); exact (hL); exact (.inl (by simp [roL, roA, treeL, treeC]))) | ((with_reducible apply callT); exact (hC); exact (.inl (by simp [roL, roA, treeL, treeC])))))
          all_goals first
            | exact ⟨[], by simp, rfl, trivial⟩
            | trace_state
      · rw [if_neg he] at hL
        rw [if_pos he] at hFl
        generalize (listP l).2.2 = e at *
        have b1 : (e != 0) = true := by simpa using he
        have hRR : rdAV F = .tup [.agg [nilV, eI 0, eI 0, nilV, nilV], eI e] := by rw [hFl]; unfold rdAV; rw [if_neg he]
        rw [hRR]
        clear he hF hFl hRR
        (repeat' (first | simp (maxSteps := 5000000) (implicitDefEqProofs := false) only [ruA, ruB, aEv, aTake, aLoad, aField, aIndex, aLen, aBin, bin2, aUn, un1, aExtract, aConv, ASt.get, aget, ASt.put, aStore, aBox, aAppend, aBuildSlice, aMake, aBuild, aFill, oneParts, allC, aBinS, yv, aCells, oneC, oneCL, treeC, treeL, aLit, aDst, aSrc, appTab, Value.cells, Value.oneCell', envOf, aResL, aOne, ↓reduceIte, reduceCtorEq, forall_const, Nat.reduceLT, Nat.reduceEqDiff, Nat.reduceAdd, Nat.reduceMul, Nat.reduceSub, Nat.reduceLeDiff, Nat.reduceBEq, eq_self, implies_true, ne_eq, dref, dref1, dref2, aExecS, aStoreB, aTakes, aTakeE, aElder, aFrom, aFresh, isLoad, aBuildSlice1, frzs, frz1, ownIds, AV.frz, AV.frzL, frzEnv, AV.shift, AV.shiftL, aFieldV, aSliceW, aSliceO, aSlice, aSliceR, aSliceS, aBd, aMax, frzAVs, frzAV, frzTab, AObj.frz, aMM, aNilS, aMay, tyA_41, tyS_41, tyZ_41, tyK_3, tyE_23, tyK_23, tyB_41, tyA_2, tyS_2, tyF_41_1, tyS_3, tyF_41_2, tyK_45, tyF_41_0, tyS_23, tyF_41_3, tyS_33, tyF_41_4, b1, Int.reduceLT, Int.reduceLE, Int.reduceBEq, Int.reduceBNe, Int.reduceAdd, Int.reduceToNat, w01, w12, w23] | (with_reducible refine aIf_split (fun _ => ?_) (fun _ => ?_)) | (with_reducible refine aSel_split (fun _ => ?_) (fun _ => ?_)) | (with_reducible refine aGd_split (fun _ => ?_) (fun _ => ?_)) | (with_reducible refine aDraw_quiet (by kernel_rfl) ?_) | ((with_reducible apply callT); exact (hL); exact (.inl (by simp [roL, roA, treeL, treeC])))))
        all_goals first
          | exact ⟨[], by simp, rfl, trivial⟩
          | trace_state
  · have hR : rdP t = (st0, 17) := by
      unfold rdP numsP
      rw [if_neg hg]
      rfl
    have hNA : numsAV t = .tup [nilV, eB false] := by unfold numsAV; rw [if_neg hg]
    rw [hNA] at hN
    rw [hR]
    show ADet Tryd.prog 16 [eS t] ⟨.tup [.agg [nilV, eI 0, eI 0, nilV, nilV], eI 17], [], 0⟩
    refine adet_of_code mixedT Tryd.func16 rfl (by decide) Tryd.ntmps16 Tryd.results16 rfl (⟨fun id o h => (by cases h), ⟨⟨trivial, trivial, trivial, trivial, trivial, trivial⟩, trivial, trivial⟩⟩) ?_
    clear hR hNA hg hle
    (repeat' (first | simp (maxSteps := 5000000) (implicitDefEqProofs := false) only [ruA, ruB, aEv, aTake, aLoad, aField, aIndex, aLen, aBin, bin2, aUn, un1, aExtract, aConv, ASt.get, aget, ASt.put, aStore, aBox, aAppend, aBuildSlice, aMake, aBuild, aFill, oneParts, allC, aBinS, yv, aCells, oneC, oneCL, treeC, treeL, aLit, aDst, aSrc, appTab, Value.cells, Value.oneCell', envOf, aResL, aOne, ↓reduceIte, reduceCtorEq, forall_const, Nat.reduceLT, Nat.reduceEqDiff, Nat.reduceAdd, Nat.reduceMul, Nat.reduceSub, Nat.reduceLeDiff, Nat.reduceBEq, eq_self, implies_true, ne_eq, dref, dref1, dref2, aExecS, aStoreB, aTakes, aTakeE, aElder, aFrom, aFresh, isLoad, aBuildSlice1, frzs, frz1, ownIds, AV.frz, AV.frzL, frzEnv, AV.shift, AV.shiftL, aFieldV, aSliceW, aSliceO, aSlice, aSliceR, aSliceS, aBd, aMax, frzAVs, frzAV, frzTab, AObj.frz, aMM, aNilS, aMay, tyA_41, tyS_41, tyZ_41, tyK_3, tyE_23, tyK_23, tyB_41, tyA_2, tyS_2, tyF_41_1, tyS_3, tyF_41_2, tyK_45, tyF_41_0, tyS_23, tyF_41_3, tyS_33, tyF_41_4] | (with_reducible refine aIf_split (fun _ => ?_) (fun _ => ?_)) | (with_reducible refine aSel_split (fun _ => ?_) (fun _ => ?_)) | (with_reducible refine aGd_split (fun _ => ?_) (fun _ => ?_)) | (with_reducible refine aDraw_quiet (by kernel_rfl) ?_) | ((with_reducible apply callT); exact (hN); exact (.inl (by simp [roL, roA, treeL, treeC])))))
    all_goals exact ⟨[], by simp, rfl, trivial⟩
end
section
open Go.RowKit
theorem readP_lens {l : List Int} (h : (readP l).2 = 0) : (readP l).1.vals.length ≤ 100 ∧ (readP l).1.did.length ≤ 100 ∧ (readP l).1.cnt.length ≤ 100 := by
  unfold readP at h ⊢
  split at h
  · rename_i h1
    exact absurd h h1
  · rename_i h1
    rw [if_neg h1]
    have e1 := (listP_ok (Decidable.not_not.1 h1)).2
    generalize hv : (listP l).1 = v at *
    generalize hr : (listP l).2.1 = r at *
    unfold read1 at h ⊢
    split at h
    · rename_i o d k
      unfold read2 at h ⊢
      split at h
      · rename_i h2
        exact absurd h h2
      · rename_i h2
        rw [if_neg h2]
        have e2 := (listP_ok (Decidable.not_not.1 h2)).2
        generalize hv2 : (listP k).1 = v2 at *
        generalize hr2 : (listP k).2.1 = r2 at *
        unfold read3 at h ⊢
        split at h
        · rename_i h3
          exact absurd h h3
        · rename_i h3
          rw [if_neg h3]
          have e3 := (listP_ok (Decidable.not_not.1 h3)).2
          split at h
          · rename_i h4
            rw [if_pos h4]
            exact ⟨e1, e2, e3⟩
          · cases h
    · cases h
/-- numbers of 64 bits -/
structure StK (s : St) : Prop where
  vals : ∀ x ∈ s.vals, ok64 x
  opn : ok64 s.opn
  don : ok64 s.don
  did : ∀ x ∈ s.did, ok64 x
  cnt : ∀ x ∈ s.cnt, ok64 x
theorem stK_of {s : St} (h : ∀ n ∈ stNums s, ok64 n) : StK s :=
  ⟨fun x hx => h x (by simp [stNums, hx]), h _ (by simp [stNums]), h _ (by simp [stNums]), fun x hx => h x (by simp [stNums, hx]), fun x hx => h x (by simp [stNums, hx])⟩
theorem nums_ok {s : St} (h : StK s) (h1 : s.vals.length ≤ 1000) (h2 : s.did.length ≤ 1000) (h3 : s.cnt.length ≤ 1000) : ∀ n ∈ stNums s, ok64 n := fun n hn => by
  simp only [stNums, List.mem_cons, List.mem_append] at hn
  rcases hn with rfl | hn | rfl | rfl | rfl | hn | rfl | hn
  · unfold ok64; omega
  · exact h.vals n hn
  · exact h.opn
  · exact h.don
  · unfold ok64; omega
  · exact h.did n hn
  · unfold ok64; omega
  · exact h.cnt n hn
theorem numsP_ok64 {t : ByteArray} (ht : t.size ≤ 100000) (h : (numsP t).2 = true) : ∀ n ∈ (numsP t).1, ok64 n := by
  unfold numsP at h ⊢
  split
  · intro n hn
    obtain ⟨w, hw, rfl⟩ := List.mem_map.1 hn
    exact read_ok64 w (Nat.le_trans (wordsB_size t w hw) ht)
  · intro n hn
    cases hn
theorem rdP_ok {t : ByteArray} (ht : t.size ≤ 100000) (h : (rdP t).2 = 0) : toB (stText (rdP t).1) = t ∧ StK (rdP t).1 ∧ (rdP t).1.vals.length ≤ 100 ∧ (rdP t).1.did.length ≤ 100 ∧ (rdP t).1.cnt.length ≤ 100 := by
  unfold rdP at h ⊢
  split at h
  · rename_i h1
    rw [if_pos h1]
    have h2 := readP_ok h
    refine ⟨?_, stK_of (by rw [h2]; exact numsP_ok64 ht h1), readP_lens h⟩
    unfold stText
    rw [h2]
    exact numsP_true h1
  · cases h
theorem rdP_err {t : ByteArray} (h : (rdP t).2 ≠ 0) : (rdP t).2 = 17 ∨ (rdP t).2 = 3 := by
  unfold rdP at h ⊢
  split
  · rename_i h1
    rw [if_pos h1] at h
    exact (readP_err _).elim (fun e => absurd e h) fun e => e.1
  · exact .inl rfl
theorem rdP_text {s : St} (h : ∀ n ∈ stNums s, ok64 n) : rdP (toB (stText s)) = readP (stNums s) := by
  have h1 : numsP (toB (stText s)) = (stNums s, true) := numsP_text (by simp [stNums]) h
  unfold rdP
  rw [h1]
  rfl
set_option maxRecDepth 100000 in
set_option maxHeartbeats 8000000 in
theorem stateReads15_A (t : ByteArray) : ADet Tryd.prog 5 [eS t] (val (.bool true)) := by
  refine adet_of_code mixedT Tryd.func5 rfl (by decide) Tryd.ntmps5 Tryd.results5 rfl (val_ok _) ?_
  by_cases hs : t.size ≤ 3000
  · have d1 : decide (3000 < (t.size : Int)) = false := decide_eq_false (by omega)
    have hR := read_A t (by omega)
    by_cases he : (rdP t).2 = 0
    · obtain ⟨h1, hk, l1, l2, l3⟩ := rdP_ok (by omega) he
      have hT := refText_A (rdP t).1 (by omega) (by omega) (by omega) hk.vals hk.opn hk.don hk.did hk.cnt
      rw [h1] at hT
      unfold rdAV at hR
      rw [if_pos he] at hR
      generalize (rdP t).1 = s at *
      have e1 : (t == t) = true := by rw [bs_beq]; simp
      clear h1 hk he
      (repeat' (first | simp (maxSteps := 5000000) (implicitDefEqProofs := false) only [ruA, ruB, aEv, aTake, aLoad, aField, aIndex, aLen, aBin, bin2, aUn, un1, aExtract, aConv, ASt.get, aget, ASt.put, aStore, aBox, aAppend, aBuildSlice, aMake, aBuild, aFill, oneParts, allC, aBinS, yv, aCells, oneC, oneCL, treeC, treeL, aLit, aDst, aSrc, appTab, Value.cells, Value.oneCell', envOf, aResL, aOne, ↓reduceIte, reduceCtorEq, forall_const, Nat.reduceLT, Nat.reduceEqDiff, Nat.reduceAdd, Nat.reduceMul, Nat.reduceSub, Nat.reduceLeDiff, Nat.reduceBEq, eq_self, implies_true, ne_eq, dref, dref1, dref2, aExecS, aStoreB, aTakes, aTakeE, aElder, aFrom, aFresh, isLoad, aBuildSlice1, frzs, frz1, ownIds, AV.frz, AV.frzL, frzEnv, AV.shift, AV.shiftL, aFieldV, aSliceW, aSliceO, aSlice, aSliceR, aSliceS, aBd, aMax, frzAVs, frzAV, frzTab, AObj.frz, aMM, aNilS, aMay, tyE_9, tyK_9, tyK_3, tyZ_41, tyS_41, tyK_45, tyA_41, tyB_41, d1, e1, Int.reduceBNe] | (with_reducible refine aIf_split (fun _ => ?_) (fun _ => ?_)) | (with_reducible refine aSel_split (fun _ => ?_) (fun _ => ?_)) | (with_reducible refine aGd_split (fun _ => ?_) (fun _ => ?_)) | (with_reducible refine aDraw_quiet (by kernel_rfl) ?_) | ((with_reducible apply callT); exact (hR); exact (.inl (by simp [roL, roA, treeL, treeC]))) | ((with_reducible apply callV); exact (hT)) | ((with_reducible apply callD); exact (hT)) | ((with_reducible apply callV (g := 9)); exact (awake15_A)) | ((with_reducible apply callD (g := 9)); exact (awake15_A))))
    · have h17 := rdP_err he
      unfold rdAV at hR
      rw [if_neg he] at hR
      have hS := (sameS_A st0 st0 (by simp [st0]) (by simp [st0]) (by simp [st0])).fits (args := [.agg [nilV, eI 0, eI 0, nilV, nilV], .agg [nilV, eI 0, eI 0, nilV, nilV]]) ⟨.agg ⟨.nil 1, .refl _, .refl _, .nil 1, .nil 1, trivial⟩, .agg ⟨.nil 1, .refl _, .refl _, .nil 1, .nil 1, trivial⟩, trivial⟩
      rw [sameB_self] at hS
      generalize (rdP t).2 = e at *
      have b1 : (e != 0) = true := by simpa using he
      have b2 : (e == 17) = true ∨ ((e == 17) = false ∧ (e == 3) = true) := by
        rcases h17 with rfl | rfl
        · exact .inl rfl
        · exact .inr ⟨rfl, rfl⟩
      clear he h17
      rcases b2 with b2 | ⟨b2, b3⟩
      · (repeat' (first | simp (maxSteps := 5000000) (implicitDefEqProofs := false) only [ruA, ruB, aEv, aTake, aLoad, aField, aIndex, aLen, aBin, bin2, aUn, un1, aExtract, aConv, ASt.get, aget, ASt.put, aStore, aBox, aAppend, aBuildSlice, aMake, aBuild, aFill, oneParts, allC, aBinS, yv, aCells, oneC, oneCL, treeC, treeL, aLit, aDst, aSrc, appTab, Value.cells, Value.oneCell', envOf, aResL, aOne, ↓reduceIte, reduceCtorEq, forall_const, Nat.reduceLT, Nat.reduceEqDiff, Nat.reduceAdd, Nat.reduceMul, Nat.reduceSub, Nat.reduceLeDiff, Nat.reduceBEq, eq_self, implies_true, ne_eq, dref, dref1, dref2, aExecS, aStoreB, aTakes, aTakeE, aElder, aFrom, aFresh, isLoad, aBuildSlice1, frzs, frz1, ownIds, AV.frz, AV.frzL, frzEnv, AV.shift, AV.shiftL, aFieldV, aSliceW, aSliceO, aSlice, aSliceR, aSliceS, aBd, aMax, frzAVs, frzAV, frzTab, AObj.frz, aMM, aNilS, aMay, tyE_9, tyK_9, tyK_3, tyZ_41, tyS_41, tyK_45, tyA_41, tyB_41, d1, b1, b2] | (with_reducible refine aIf_split (fun _ => ?_) (fun _ => ?_)) | (with_reducible refine aSel_split (fun _ => ?_) (fun _ => ?_)) | (with_reducible refine aGd_split (fun _ => ?_) (fun _ => ?_)) | (with_reducible refine aDraw_quiet (by kernel_rfl) ?_) | ((with_reducible apply callT); exact (hR); exact (.inl (by simp [roL, roA, treeL, treeC]))) | ((with_reducible apply callV); exact (hS)) | ((with_reducible apply callD); exact (hS)) | ((with_reducible apply callV (g := 9)); exact (awake15_A)) | ((with_reducible apply callD (g := 9)); exact (awake15_A))))
      · (repeat' (first | simp (maxSteps := 5000000) (implicitDefEqProofs := false) only [ruA, ruB, aEv, aTake, aLoad, aField, aIndex, aLen, aBin, bin2, aUn, un1, aExtract, aConv, ASt.get, aget, ASt.put, aStore, aBox, aAppend, aBuildSlice, aMake, aBuild, aFill, oneParts, allC, aBinS, yv, aCells, oneC, oneCL, treeC, treeL, aLit, aDst, aSrc, appTab, Value.cells, Value.oneCell', envOf, aResL, aOne, ↓reduceIte, reduceCtorEq, forall_const, Nat.reduceLT, Nat.reduceEqDiff, Nat.reduceAdd, Nat.reduceMul, Nat.reduceSub, Nat.reduceLeDiff, Nat.reduceBEq, eq_self, implies_true, ne_eq, dref, dref1, dref2, aExecS, aStoreB, aTakes, aTakeE, aElder, aFrom, aFresh, isLoad, aBuildSlice1, frzs, frz1, ownIds, AV.frz, AV.frzL, frzEnv, AV.shift, AV.shiftL, aFieldV, aSliceW, aSliceO, aSlice, aSliceR, aSliceS, aBd, aMax, frzAVs, frzAV, frzTab, AObj.frz, aMM, aNilS, aMay, tyE_9, tyK_9, tyK_3, tyZ_41, tyS_41, tyK_45, tyA_41, tyB_41, d1, b1, b2, b3] | (with_reducible refine aIf_split (fun _ => ?_) (fun _ => ?_)) | (with_reducible refine aSel_split (fun _ => ?_) (fun _ => ?_)) | (with_reducible refine aGd_split (fun _ => ?_) (fun _ => ?_)) | (with_reducible refine aDraw_quiet (by kernel_rfl) ?_) | ((with_reducible apply callT); exact (hR); exact (.inl (by simp [roL, roA, treeL, treeC]))) | ((with_reducible apply callV); exact (hS)) | ((with_reducible apply callD); exact (hS)) | ((with_reducible apply callV (g := 9)); exact (awake15_A)) | ((with_reducible apply callD (g := 9)); exact (awake15_A))))
  · have d1 : decide (3000 < (t.size : Int)) = true := decide_eq_true (by omega)
    (repeat' (first | simp (maxSteps := 5000000) (implicitDefEqProofs := false) only [ruA, ruB, aEv, aTake, aLoad, aField, aIndex, aLen, aBin, bin2, aUn, un1, aExtract, aConv, ASt.get, aget, ASt.put, aStore, aBox, aAppend, aBuildSlice, aMake, aBuild, aFill, oneParts, allC, aBinS, yv, aCells, oneC, oneCL, treeC, treeL, aLit, aDst, aSrc, appTab, Value.cells, Value.oneCell', envOf, aResL, aOne, ↓reduceIte, reduceCtorEq, forall_const, Nat.reduceLT, Nat.reduceEqDiff, Nat.reduceAdd, Nat.reduceMul, Nat.reduceSub, Nat.reduceLeDiff, Nat.reduceBEq, eq_self, implies_true, ne_eq, dref, dref1, dref2, aExecS, aStoreB, aTakes, aTakeE, aElder, aFrom, aFresh, isLoad, aBuildSlice1, frzs, frz1, ownIds, AV.frz, AV.frzL, frzEnv, AV.shift, AV.shiftL, aFieldV, aSliceW, aSliceO, aSlice, aSliceR, aSliceS, aBd, aMax, frzAVs, frzAV, frzTab, AObj.frz, aMM, aNilS, aMay, tyE_9, tyK_9, tyK_3, tyZ_41, tyS_41, tyK_45, tyA_41, tyB_41, d1] | (with_reducible refine aIf_split (fun _ => ?_) (fun _ => ?_)) | (with_reducible refine aSel_split (fun _ => ?_) (fun _ => ?_)) | (with_reducible refine aGd_split (fun _ => ?_) (fun _ => ?_)) | (with_reducible refine aDraw_quiet (by kernel_rfl) ?_) | ((with_reducible apply callV (g := 9)); exact (awake15_A)) | ((with_reducible apply callD (g := 9)); exact (awake15_A))))
set_option maxRecDepth 100000 in
set_option maxHeartbeats 8000000 in
theorem stateTexts15_A (s : St) (hk : StK s) : ADet Tryd.prog 6 [.agg (eSt s)] (val (.bool true)) := by
  refine adet_of_code mixedT Tryd.func6 rfl (by decide) Tryd.ntmps6 Tryd.results6 rfl (val_ok _) ?_
  (repeat' (first | simp (maxSteps := 5000000) (implicitDefEqProofs := false) only [ruA, ruB, aEv, aTake, aLoad, aField, aIndex, aLen, aBin, bin2, aUn, un1, aExtract, aConv, ASt.get, aget, ASt.put, aStore, aBox, aAppend, aBuildSlice, aMake, aBuild, aFill, oneParts, allC, aBinS, yv, aCells, oneC, oneCL, treeC, treeL, aLit, aDst, aSrc, appTab, Value.cells, Value.oneCell', envOf, aResL, aOne, ↓reduceIte, reduceCtorEq, forall_const, Nat.reduceLT, Nat.reduceEqDiff, Nat.reduceAdd, Nat.reduceMul, Nat.reduceSub, Nat.reduceLeDiff, Nat.reduceBEq, eq_self, implies_true, ne_eq, dref, dref1, dref2, aExecS, aStoreB, aTakes, aTakeE, aElder, aFrom, aFresh, isLoad, aBuildSlice1, frzs, frz1, ownIds, AV.frz, AV.frzL, frzEnv, AV.shift, AV.shiftL, aFieldV, aSliceW, aSliceO, aSlice, aSliceR, aSliceS, aBd, aMax, frzAVs, frzAV, frzTab, AObj.frz, aMM, aNilS, aMay, tyA_41, tyS_41, tyK_9, tyZ_41, tyF_41_0, tyA_23, tyS_23, tyE_23, tyK_23, tyK_3, tyF_41_3, tyA_33, tyS_33, tyE_33, tyK_33, tyF_41_4, tyK_45] | (with_reducible refine aIf_split (fun _ => ?_) (fun _ => ?_)) | (with_reducible refine aSel_split (fun _ => ?_) (fun _ => ?_)) | (with_reducible refine aGd_split (fun _ => ?_) (fun _ => ?_))))
  refine callPB (great15_A s) fun b hb => ?_
  cases b with
  | true =>
    (repeat' (first | simp (maxSteps := 5000000) (implicitDefEqProofs := false) only [ruA, ruB, aEv, aTake, aLoad, aField, aIndex, aLen, aBin, bin2, aUn, un1, aExtract, aConv, ASt.get, aget, ASt.put, aStore, aBox, aAppend, aBuildSlice, aMake, aBuild, aFill, oneParts, allC, aBinS, yv, aCells, oneC, oneCL, treeC, treeL, aLit, aDst, aSrc, appTab, Value.cells, Value.oneCell', envOf, aResL, aOne, ↓reduceIte, reduceCtorEq, forall_const, Nat.reduceLT, Nat.reduceEqDiff, Nat.reduceAdd, Nat.reduceMul, Nat.reduceSub, Nat.reduceLeDiff, Nat.reduceBEq, eq_self, implies_true, ne_eq, dref, dref1, dref2, aExecS, aStoreB, aTakes, aTakeE, aElder, aFrom, aFresh, isLoad, aBuildSlice1, frzs, frz1, ownIds, AV.frz, AV.frzL, frzEnv, AV.shift, AV.shiftL, aFieldV, aSliceW, aSliceO, aSlice, aSliceR, aSliceS, aBd, aMax, frzAVs, frzAV, frzTab, AObj.frz, aMM, aNilS, aMay, tyA_41, tyS_41, tyK_9, tyZ_41, tyF_41_0, tyA_23, tyS_23, tyE_23, tyK_23, tyK_3, tyF_41_3, tyA_33, tyS_33, tyE_33, tyK_33, tyF_41_4, tyK_45] | (with_reducible refine aIf_split (fun _ => ?_) (fun _ => ?_)) | (with_reducible refine aSel_split (fun _ => ?_) (fun _ => ?_)) | (with_reducible refine aGd_split (fun _ => ?_) (fun _ => ?_)) | (with_reducible refine aDraw_quiet (by kernel_rfl) ?_) | ((with_reducible apply callV (g := 9)); exact (awake15_A)) | ((with_reducible apply callD (g := 9)); exact (awake15_A))))
  | false =>
    obtain ⟨a1, a2, a3⟩ := hb rfl
    have hT := text_A s (by omega) (by omega) (by omega) hk.vals hk.opn hk.don hk.did hk.cnt
    have hT2 := refText_A s (by omega) (by omega) (by omega) hk.vals hk.opn hk.don hk.did hk.cnt
    have hok := nums_ok hk (by omega) (by omega) (by omega)
    have hst : stB s = toB (stText s) := rfl
    rw [hst] at hT
    have hln := numsT_len (stNums s) hok
    have hLl : (stNums s).length ≤ 500 := by simp [stNums]; omega
    have hR := read_A (toB (stText s)) (by rw [size_toB]; unfold stText; omega)
    rw [rdP_text hok] at hR
    generalize toB (stText s) = t at *
    have e1 : (t != t) = false := by show (!(t == t)) = false; rw [bs_beq]; simp
    have e2 : (!(t == t)) = false := e1
    clear hst hok hln hLl
    by_cases hl : s.vals.length ≤ 100 ∧ s.did.length ≤ 100 ∧ s.cnt.length ≤ 100
    · obtain ⟨l1, l2, l3⟩ := id hl
      rw [readP_nums s l1 l2 l3] at hR
      have d1 : decide (100 < (s.vals.length : Int)) = false := decide_eq_false (by omega)
      have d2 : decide (100 < (s.did.length : Int)) = false := decide_eq_false (by omega)
      have d3 : decide (100 < (s.cnt.length : Int)) = false := decide_eq_false (by omega)
      have hS := sameS_A s s (by omega) (by omega) (by omega)
      have hP := sameP_A s s (by omega) (by omega) (by omega)
      rw [sameB_self] at hS hP
      have hR' : ADet Tryd.prog 16 [eS t] ⟨.tup [.agg (eSt s), eI 0], [], 0⟩ := hR
      clear hR hl
      (repeat' (first | simp (maxSteps := 5000000) (implicitDefEqProofs := false) only [ruA, ruB, aEv, aTake, aLoad, aField, aIndex, aLen, aBin, bin2, aUn, un1, aExtract, aConv, ASt.get, aget, ASt.put, aStore, aBox, aAppend, aBuildSlice, aMake, aBuild, aFill, oneParts, allC, aBinS, yv, aCells, oneC, oneCL, treeC, treeL, aLit, aDst, aSrc, appTab, Value.cells, Value.oneCell', envOf, aResL, aOne, ↓reduceIte, reduceCtorEq, forall_const, Nat.reduceLT, Nat.reduceEqDiff, Nat.reduceAdd, Nat.reduceMul, Nat.reduceSub, Nat.reduceLeDiff, Nat.reduceBEq, eq_self, implies_true, ne_eq, dref, dref1, dref2, aExecS, aStoreB, aTakes, aTakeE, aElder, aFrom, aFresh, isLoad, aBuildSlice1, frzs, frz1, ownIds, AV.frz, AV.frzL, frzEnv, AV.shift, AV.shiftL, aFieldV, aSliceW, aSliceO, aSlice, aSliceR, aSliceS, aBd, aMax, frzAVs, frzAV, frzTab, AObj.frz, aMM, aNilS, aMay, tyA_41, tyS_41, tyK_9, tyZ_41, tyF_41_0, tyA_23, tyS_23, tyE_23, tyK_23, tyK_3, tyF_41_3, tyA_33, tyS_33, tyE_33, tyK_33, tyF_41_4, tyK_45, e1, e2, d1, d2, d3, List.length_map, Int.reduceBEq] | (with_reducible refine aIf_split (fun _ => ?_) (fun _ => ?_)) | (with_reducible refine aSel_split (fun _ => ?_) (fun _ => ?_)) | (with_reducible refine aGd_split (fun _ => ?_) (fun _ => ?_)) | (with_reducible refine aDraw_quiet (by kernel_rfl) ?_) | ((with_reducible apply callV); exact (hT)) | ((with_reducible apply callD); exact (hT)) | ((with_reducible apply callV); exact (hT2)) | ((with_reducible apply callD); exact (hT2)) | ((with_reducible apply callT); exact (hR'); exact (.inl (by simp [roL, roA, treeL, treeC]))) | ((with_reducible apply callV); exact (hS)) | ((with_reducible apply callD); exact (hS)) | ((with_reducible apply callV); exact (hP)) | ((with_reducible apply callD); exact (hP)) | ((with_reducible apply callV (g := 9)); exact (awake15_A)) | ((with_reducible apply callD (g := 9)); exact (awake15_A))))
    · rw [readP_long s hl] at hR
      have hR' : ADet Tryd.prog 16 [eS t] ⟨.tup [.agg [nilV, eI 0, eI 0, nilV, nilV], eI 3], [], 0⟩ := hR
      clear hR
      by_cases l1 : s.vals.length ≤ 100
      · have d1 : decide (100 < (s.vals.length : Int)) = false := decide_eq_false (by omega)
        by_cases l2 : s.did.length ≤ 100
        · have d2 : decide (100 < (s.did.length : Int)) = false := decide_eq_false (by omega)
          have d3 : decide (100 < (s.cnt.length : Int)) = true := decide_eq_true (by omega)
          clear hl
          (repeat' (first | simp (maxSteps := 5000000) (implicitDefEqProofs := false) only [ruA, ruB, aEv, aTake, aLoad, aField, aIndex, aLen, aBin, bin2, aUn, un1, aExtract, aConv, ASt.get, aget, ASt.put, aStore, aBox, aAppend, aBuildSlice, aMake, aBuild, aFill, oneParts, allC, aBinS, yv, aCells, oneC, oneCL, treeC, treeL, aLit, aDst, aSrc, appTab, Value.cells, Value.oneCell', envOf, aResL, aOne, ↓reduceIte, reduceCtorEq, forall_const, Nat.reduceLT, Nat.reduceEqDiff, Nat.reduceAdd, Nat.reduceMul, Nat.reduceSub, Nat.reduceLeDiff, Nat.reduceBEq, eq_self, implies_true, ne_eq, dref, dref1, dref2, aExecS, aStoreB, aTakes, aTakeE, aElder, aFrom, aFresh, isLoad, aBuildSlice1, frzs, frz1, ownIds, AV.frz, AV.frzL, frzEnv, AV.shift, AV.shiftL, aFieldV, aSliceW, aSliceO, aSlice, aSliceR, aSliceS, aBd, aMax, frzAVs, frzAV, frzTab, AObj.frz, aMM, aNilS, aMay, tyA_41, tyS_41, tyK_9, tyZ_41, tyF_41_0, tyA_23, tyS_23, tyE_23, tyK_23, tyK_3, tyF_41_3, tyA_33, tyS_33, tyE_33, tyK_33, tyF_41_4, tyK_45, e1, e2, d1, d2, d3, List.length_map, Int.reduceBEq] | (with_reducible refine aIf_split (fun _ => ?_) (fun _ => ?_)) | (with_reducible refine aSel_split (fun _ => ?_) (fun _ => ?_)) | (with_reducible refine aGd_split (fun _ => ?_) (fun _ => ?_)) | (with_reducible refine aDraw_quiet (by kernel_rfl) ?_) | ((with_reducible apply callV); exact (hT)) | ((with_reducible apply callD); exact (hT)) | ((with_reducible apply callV); exact (hT2)) | ((with_reducible apply callD); exact (hT2)) | ((with_reducible apply callT); exact (hR'); exact (.inl (by simp [roL, roA, treeL, treeC]))) | ((with_reducible apply callV (g := 9)); exact (awake15_A)) | ((with_reducible apply callD (g := 9)); exact (awake15_A))))
        · have d2 : decide (100 < (s.did.length : Int)) = true := decide_eq_true (by omega)
          clear hl
          (repeat' (first | simp (maxSteps := 5000000) (implicitDefEqProofs := false) only [ruA, ruB, aEv, aTake, aLoad, aField, aIndex, aLen, aBin, bin2, aUn, un1, aExtract, aConv, ASt.get, aget, ASt.put, aStore, aBox, aAppend, aBuildSlice, aMake, aBuild, aFill, oneParts, allC, aBinS, yv, aCells, oneC, oneCL, treeC, treeL, aLit, aDst, aSrc, appTab, Value.cells, Value.oneCell', envOf, aResL, aOne, ↓reduceIte, reduceCtorEq, forall_const, Nat.reduceLT, Nat.reduceEqDiff, Nat.reduceAdd, Nat.reduceMul, Nat.reduceSub, Nat.reduceLeDiff, Nat.reduceBEq, eq_self, implies_true, ne_eq, dref, dref1, dref2, aExecS, aStoreB, aTakes, aTakeE, aElder, aFrom, aFresh, isLoad, aBuildSlice1, frzs, frz1, ownIds, AV.frz, AV.frzL, frzEnv, AV.shift, AV.shiftL, aFieldV, aSliceW, aSliceO, aSlice, aSliceR, aSliceS, aBd, aMax, frzAVs, frzAV, frzTab, AObj.frz, aMM, aNilS, aMay, tyA_41, tyS_41, tyK_9, tyZ_41, tyF_41_0, tyA_23, tyS_23, tyE_23, tyK_23, tyK_3, tyF_41_3, tyA_33, tyS_33, tyE_33, tyK_33, tyF_41_4, tyK_45, e1, e2, d1, d2, List.length_map, Int.reduceBEq] | (with_reducible refine aIf_split (fun _ => ?_) (fun _ => ?_)) | (with_reducible refine aSel_split (fun _ => ?_) (fun _ => ?_)) | (with_reducible refine aGd_split (fun _ => ?_) (fun _ => ?_)) | (with_reducible refine aDraw_quiet (by kernel_rfl) ?_) | ((with_reducible apply callV); exact (hT)) | ((with_reducible apply callD); exact (hT)) | ((with_reducible apply callV); exact (hT2)) | ((with_reducible apply callD); exact (hT2)) | ((with_reducible apply callT); exact (hR'); exact (.inl (by simp [roL, roA, treeL, treeC]))) | ((with_reducible apply callV (g := 9)); exact (awake15_A)) | ((with_reducible apply callD (g := 9)); exact (awake15_A))))
      · have d1 : decide (100 < (s.vals.length : Int)) = true := decide_eq_true (by omega)
        clear hl
        (repeat' (first | simp (maxSteps := 5000000) (implicitDefEqProofs := false) only [ruA, ruB, aEv, aTake, aLoad, aField, aIndex, aLen, aBin, bin2, aUn, un1, aExtract, aConv, ASt.get, aget, ASt.put, aStore, aBox, aAppend, aBuildSlice, aMake, aBuild, aFill, oneParts, allC, aBinS, yv, aCells, oneC, oneCL, treeC, treeL, aLit, aDst, aSrc, appTab, Value.cells, Value.oneCell', envOf, aResL, aOne, ↓reduceIte, reduceCtorEq, forall_const, Nat.reduceLT, Nat.reduceEqDiff, Nat.reduceAdd, Nat.reduceMul, Nat.reduceSub, Nat.reduceLeDiff, Nat.reduceBEq, eq_self, implies_true, ne_eq, dref, dref1, dref2, aExecS, aStoreB, aTakes, aTakeE, aElder, aFrom, aFresh, isLoad, aBuildSlice1, frzs, frz1, ownIds, AV.frz, AV.frzL, frzEnv, AV.shift, AV.shiftL, aFieldV, aSliceW, aSliceO, aSlice, aSliceR, aSliceS, aBd, aMax, frzAVs, frzAV, frzTab, AObj.frz, aMM, aNilS, aMay, tyA_41, tyS_41, tyK_9, tyZ_41, tyF_41_0, tyA_23, tyS_23, tyE_23, tyK_23, tyK_3, tyF_41_3, tyA_33, tyS_33, tyE_33, tyK_33, tyF_41_4, tyK_45, e1, e2, d1, List.length_map, Int.reduceBEq] | (with_reducible refine aIf_split (fun _ => ?_) (fun _ => ?_)) | (with_reducible refine aSel_split (fun _ => ?_) (fun _ => ?_)) | (with_reducible refine aGd_split (fun _ => ?_) (fun _ => ?_)) | (with_reducible refine aDraw_quiet (by kernel_rfl) ?_) | ((with_reducible apply callV); exact (hT)) | ((with_reducible apply callD); exact (hT)) | ((with_reducible apply callV); exact (hT2)) | ((with_reducible apply callD); exact (hT2)) | ((with_reducible apply callT); exact (hR'); exact (.inl (by simp [roL, roA, treeL, treeC]))) | ((with_reducible apply callV (g := 9)); exact (awake15_A)) | ((with_reducible apply callD (g := 9)); exact (awake15_A))))
end
section
open Go.RowKit

theorem opensInt : Opens Tryd.prog 3 (intR .i64) := opens_int Tryd.underlying3
theorem opensI64 : Opens Tryd.prog 2 (intR .i64) := opens_int Tryd.underlying2
theorem opensI64s : Opens Tryd.prog 23 (sliceR (intR .i64)) := opens_slice Tryd.underlying23 (by kernel_rfl) (by decide) opensI64
theorem opensIntsE : Opens Tryd.prog 33 (sliceR (intR .i64)) := opens_slice Tryd.underlying33 (by kernel_rfl) (by decide) opensInt
def stP : Rep (List Int × Int × Int × List Int × List Int × Unit) := pairR (sliceR (intR .i64)) (pairR (intR .i64) (pairR (intR .i64) (pairR (sliceR (intR .i64)) (pairR (sliceR (intR .i64)) nilR))))
theorem opensStP : Opens Tryd.prog 41 stP :=
  opens_struct Tryd.underlying41 (by kernel_rfl) (opensF_cons (by kernel_rfl) (by kernel_rfl) opensI64s (opensF_cons (by kernel_rfl) (by kernel_rfl) opensInt (opensF_cons (by kernel_rfl) (by kernel_rfl) opensInt (opensF_cons (by kernel_rfl) (by kernel_rfl) opensIntsE (opensF_cons (by kernel_rfl) (by kernel_rfl) opensIntsE (opensF_nil _ _))))))
/-- a state's cells -/
structure StAt (w : World) (S : Nat → Prop) (cs : Array Value) (s : St) (vv dv cv : Value) : Prop where
  cells : cs = #[vv, .int .i64 s.opn, .int .i64 s.don, dv, cv]
  vals : (sliceR (intR .i64)).one w S vv s.vals
  did : (sliceR (intR .i64)).one w S dv s.did
  cnt : (sliceR (intR .i64)).one w S cv s.cnt
  opn : ok64 s.opn
  don : ok64 s.don
theorem open_st {H : Type} {enc : TypeId × Value → H} {w : World} {fuel : Nat} {cs : Array Value} {x : DataW H × List MemPlace} (h : DataW.trod enc Tryd.prog w 0 (fun _ => true) true fuel 41 cs.toList = some x) :
    ∃ s vv dv cv, StAt w (fun b => b < w.heap.size) cs s vv dv cv := by
  obtain ⟨⟨vals, o, d, did, cnt, _⟩, h⟩ := opensStP H enc w fuel _ _ h
  obtain ⟨c0, q0, e0, h0, h⟩ := pair_inv h
  obtain ⟨c1, q1, e1, ⟨e1', h1⟩, h⟩ := pair_inv h
  obtain ⟨c2, q2, e2, ⟨e2', h2⟩, h⟩ := pair_inv h
  obtain ⟨c3, q3, e3, h3, h⟩ := pair_inv h
  obtain ⟨c4, q4, e4, h4, h⟩ := pair_inv h
  obtain rfl : q4 = [] := h
  obtain ⟨vv, rfl, h0⟩ := one_inv (r := sliceR (intR .i64)) rfl h0
  obtain ⟨dv, rfl, h3⟩ := one_inv (r := sliceR (intR .i64)) rfl h3
  obtain ⟨cv, rfl, h4⟩ := one_inv (r := sliceR (intR .i64)) rfl h4
  refine ⟨⟨vals, o, d, did, cnt⟩, vv, dv, cv, ?_, h0, h3, h4, wf_i64 h1, wf_i64 h2⟩
  apply Array.ext'
  rw [e0, e1, e2, e3, e4, e1', e2']
  rfl
end
section
open Go.RowKit
def Into {α : Type} (r : Rep α) (f : α → List AV) : Prop := ∀ (w : World) (S : Nat → Prop) (cs : List Value) (x : α), r.at_ w S cs x → (f x).length = r.size ∧ ∀ (j : Nat) (u : Value) (av : AV), cs[j]? = some u → (f x)[j]? = some av → RT w S u av ∧ u.oneCell' = true
theorem Into.slice {α : Type} {r : Rep α} {f : α → List AV} (h : Into r f) {w : World} {S : Nat → Prop} {v : Value} {l : List α} (hv : (sliceR r).one w S v l) : RT w S v (.sl r.size (l.map f)) := by
  obtain ⟨A, c, rfl, h1, h2⟩ := slice_form hv
  by_cases h0 : 0 < l.length
  · obtain ⟨b, o, rfl, hb, hrow⟩ := slice_some hv h0
    classical
    let cs : Nat → List Value := fun i => if hi : i < l.length then (hrow i hi).choose else []
    have hcs : ∀ i (hi : i < l.length), (∀ (j : Nat) (u : Value), (cs i)[j]? = some u → w.cell? ⟨b, o + i * r.size + j, none⟩ = some u) ∧ r.at_ w S (cs i) l[i] := fun i hi => by
      have := (hrow i hi).choose_spec
      simpa [cs, hi] using this
    have key : ∀ (i j : Nat) (row : List AV) (av : AV), (l.map f)[i]? = some row → row[j]? = some av → ∃ hi : i < l.length, (cs i)[j]? = some ((cs i).getD j undef) ∧ RT w S ((cs i).getD j undef) av ∧ ((cs i).getD j undef).oneCell' = true := fun i j row av h3 h4 => by
      have hi : i < l.length := by
        have := (List.getElem?_eq_some_iff.1 h3).1
        simpa using this
      have hf : row = f l[i] := by
        rw [List.getElem?_map, List.getElem?_eq_getElem hi] at h3
        exact (Option.some.inj h3).symm
      subst hf
      obtain ⟨h5, h6⟩ := h w S (cs i) l[i] (hcs i hi).2
      have hj : j < (cs i).length := by
        rw [r.len (hcs i hi).2, ← h5]
        exact (List.getElem?_eq_some_iff.1 h4).1
      have e : (cs i)[j]? = some ((cs i).getD j undef) := by
        rw [List.getD_eq_getElem?_getD, List.getElem?_eq_getElem hj]
        rfl
      exact ⟨hi, e, h6 j _ av e h4⟩
    refine .sl _ _ c r.size _ b o (fun i j => (cs i).getD j undef) (by simp) h1 h2 (fun _ => ⟨rfl, hb⟩) (fun row hr => ?_) (fun _ i j row av h3 h4 => ?_) (fun i j row av h3 h4 => (key i j row av h3 h4).elim fun _ h => h.2.2) (fun i j row av h3 h4 => (key i j row av h3 h4).elim fun _ h => h.2.1)
    · obtain ⟨i, hi, rfl⟩ := List.getElem_of_mem hr
      have hi : i < l.length := by simpa using hi
      simp only [List.getElem_map]
      exact (h w S (cs i) l[i] (hcs i hi).2).1
    · obtain ⟨hi, h5, _⟩ := key i j row av h3 h4
      exact (hcs i hi).1 j _ h5
  · have : l = [] := List.length_eq_zero_iff.1 (by omega)
    subst this
    exact .sl A 0 c r.size [] 0 0 (fun _ _ => undef) rfl h1 h2 (fun h => by omega) (by simp) (fun h => by omega) (by simp) (by simp)
theorem into_cells {α : Type} {r : Rep α} {f : α → List AV} (g : α → List Value) (hg : ∀ w S cs x, r.at_ w S cs x → cs = g x) (hs : ∀ x, (g x).length = r.size) (ho : ∀ x u, u ∈ g x → u.oneCell' = true) (hf : ∀ x, f x = (g x).map .c) : Into r f := fun w S cs x h => by
  obtain rfl := hg w S cs x h
  rw [hf]
  refine ⟨by simp [hs], fun j u av h1 h2 => ?_⟩
  rw [List.getElem?_map, h1] at h2
  cases h2
  exact ⟨.c u, ho x u (List.mem_of_getElem? h1)⟩
theorem into_int : Into (intR .i64) (fun n => [eI n]) := into_cells (fun n => [.int .i64 n]) (fun w S cs x h => h.1) (fun x => rfl) (fun x u h => by simp at h; subst h; rfl) (fun x => rfl)
theorem rt_st {w : World} {S : Nat → Prop} {cs : Array Value} {s : St} {vv dv cv : Value} (h : StAt w S cs s vv dv cv) : RT w S (.agg cs) (.agg (eSt s)) := by
  obtain ⟨rfl, h2, h3, h4, _, _⟩ := h
  refine .agg _ _ rfl fun j u av h5 h6 => ?_
  match j with
  | 0 => simp at h5 h6; subst h5; subst h6; exact into_int.slice h2
  | 1 => simp at h5 h6; subst h5; subst h6; exact .c _
  | 2 => simp at h5 h6; subst h5; subst h6; exact .c _
  | 3 => simp at h5 h6; subst h5; subst h6; exact into_int.slice h3
  | 4 => simp at h5 h6; subst h5; subst h6; exact into_int.slice h4
  | j + 5 => simp at h5
/-- every thing of a slice is one that may be -/
theorem slice_all {α : Type} {r : Rep α} {w : World} {S : Nat → Prop} {v : Value} {l : List α} {Q : α → Prop} (h : (sliceR r).one w S v l) (hq : ∀ cs x, r.at_ w S cs x → Q x) : ∀ x ∈ l, Q x := fun x hx => by
  obtain ⟨i, hi, rfl⟩ := List.getElem_of_mem hx
  obtain ⟨A, c, rfl, _⟩ := slice_form h
  obtain ⟨b, o, rfl, _, hrow⟩ := slice_some h (by omega)
  obtain ⟨cs, _, h2⟩ := hrow i hi
  exact hq cs _ h2
theorem st_vals {w : World} {S : Nat → Prop} {cs : Array Value} {s : St} {vv dv cv : Value} (h : StAt w S cs s vv dv cv) : ∀ x ∈ s.vals, ok64 x := slice_all h.vals fun cs x h2 => wf_i64 h2.2
end
section
open Go.ChangeShapes Go.WideShapes Go.ChangeAt Go.RowKit
theorem gPow : Tryd.prog.globalNamed Tryd.powName = some 0 := by kernel_rfl
theorem tPow : (Tryd.prog.globals[0]?).map (·.type) = some 124 := by kernel_rfl
theorem pow_data : (Rows.laid_internal_strconv_uint64pow10 : DataW Unit) = Lib.tabData .u64 Lib.pow10Tab := by kernel_rfl
theorem tab_of_laid {W : World} (h : laidMetH Tryd.prog Rows.stateTextsRow.laid W) : Tab W := by
  rw [MakeChecks.laidMetH_plain _ _ _ (by kernel_rfl)] at h
  obtain ⟨ps, ⟨g0, t0, cs0, f0, p0, q0, hg0, ht0, hv0, hd0, ⟨g1, t1, cs1, f1, p1, q1, hg1, ht1, hv1, hd1, ⟨g2, t2, cs2, f2, p2, q2, hg2, ht2, hv2, hd2, _, _⟩, _⟩, _⟩, _⟩ := h
  obtain rfl := Option.some.inj (gPow.symm.trans hg2)
  obtain rfl := Option.some.inj (tPow.symm.trans ht2)
  rw [pow_data] at hd2
  refine (show W.var? Tryd.prog Tryd.powName = some cs2 from hv2).trans ?_
  rw [← Lib.cells_of_tab Tryd.underlying124 Tryd.underlying101 (by kernel_rfl) (by kernel_rfl) hd2]
theorem amb_of {W : World} (h : laidMetH Tryd.prog Rows.stateTextsRow.laid W) (hs : W.ShapedOpen Tryd.prog) : Amb W := by
  obtain ⟨m, hm⟩ : ∃ m, W.cell? ⟨1, 0, none⟩ = some (.int .i64 m) := cell_of_shapedOpen_int (g := 1) (zero := #[.int .i64 0]) (t := 3) hs (of_decide_eq_true (by kernel_rfl)) (by kernel_rfl) rfl (by kernel_rfl) (by kernel_rfl) Tryd.underlying3
  refine ⟨?_, tab_of_laid h, m, hm⟩
  have h1 := World.block_lt_of_cell? W _ hm
  unfold ambD
  rw [gPow]
  exact h1
/-- the kit's lifting lemma, what is laid and the variables' shape together -/
theorem lifted_and_shaped {H : Type} {enc : TypeId × Value → H} {a : Assume} {C : Checked} {os : Os} {f : FuncId} {fn : Func} {s : ChangeSpec} {conds : List PathCond} {apart fresh handsOn again : Bool} {X : World → Array Value → Prop}
    (hX : ∀ (w w' : World) (args : Array Value), w.heap = w'.heap → X w args → X w' args)
    (own : ownKnob C.prog.godebug = none) (started : os.Started) (noInit : C.prog.inits.idxOf? f = none) (hfn : C.prog.funcs[f]? = some fn)
    (witness : ∃ (w : World) (tape : Tape) (i : Input), w.os = os ∧ (w.forCall tape i).Shaped C.prog ∧ i.vars = [] ∧ Input.okWide C.prog (w.forCall tape i) .any w.heap.size f i ∧
      ((s.pre enc C.prog fn conds apart (w.forCall tape i).memory i.args ∧ X (w.forCall tape i).memory i.args) ∧ sizedMet enc C.prog fn (OpenSpec.ofChange s) apart (w.forCall tape i).memory i.args) ∧ a.holds C.prog (lone (Frame.enter C.prog f i.args .normal) [] (w.forCall tape i)))
    (contract : ∀ (W : World) (base : Nat) (args : Array Value) (ds gs : List (DataW H)) (before : List MemPlace),
      (∀ (j : Nat) t v, fn.params[j]? = some t → args[j]? = some v → Value.okWide C.prog W .any base t v) →
      DataW.Whole enc C.prog fn.params.toList s.vars apart W args.toList ds gs before →
      X W args → W.ShapedOpen C.prog →
      Calls C.prog f args W fun e W' => ∃ v, e = .returned v ∧ s.post enc C.prog fn apart fresh handsOn again W args v W') :
    ReturnsInHanded a C os f .any (fun w args => (s.pre enc C.prog fn conds apart w args ∧ X w args) ∧ sizedMet enc C.prog fn (OpenSpec.ofChange s) apart w args) (s.post enc C.prog fn apart fresh handsOn again) := by
  refine returnsInHanded_of_calls own started noInit witness ?_
  intro w tape i _ hsh _ hok hpre _
  obtain ⟨_, _, _, fn', hfn', _, _, _, _, hval⟩ := hok
  obtain rfl : fn' = fn := Option.some.inj (hfn'.symm.trans hfn)
  obtain ⟨⟨⟨ds, gs, before, hw, _⟩, hx⟩, _⟩ := hpre
  refine (contract (w.forCall tape i) w.heap.size i.args ds gs before hval (DataW.Whole.of_heap (by rfl) hw) (hX _ _ _ (by rfl) hx) hsh).mono fun e W' ⟨v, he, hp⟩ => ?_
  subst he
  exact ChangeSpec.post_blind hp
end
end Go.Proofs.YtodbhccfajgekaaDoor
