/-
  Parts of the proof: C1, NestSpec, Law, Nest, CL, EvAt, D1.
-/
import Derived.Test.YtmcegfoaceilgaaGreatNof4
import Derived.WalkKit
import Derived.Test.YtmcegfoaceilgaaGreatRows
import Derived.ProofKit
import Derived.OpenShut
import Derived.SizedLaws
import Derived.WalkSpells
import Derived.ScopeJumps
import Derived.WalkMore
import Derived.WalkLawsBesides
import Derived.Handy
import Derived.Deep.DeepCutAuto
import Derived.Deep.CutBlock
import Derived.BigQuiet
import Derived.Deep.QuietTactic
set_option linter.unusedVariables false
set_option linter.unusedSimpArgs false
namespace Go.Proofs.YtmcegfoaceilgaaGreat
section
open Go.RowKit
abbrev eInst (x : Inst) : List AV := [eI x.op, eI x.la, eI x.ln, eI x.ra, eI x.rn, eI x.n, eI x.u]
abbrev sInsts (l : List Inst) : AV := .sl 7 (l.map eInst)
abbrev eGd (g : Gd) : List AV := [eI g.stage, eI g.event, sInsts g.cond]
abbrev eMl (g : Ml) : List AV := [eS g.name, eI g.stage, eI g.event, sInsts g.cond, eB g.final]
abbrev eEv (g : Ev) : List AV := [eS g.name, eI g.role, eI g.stage, sI g.sets, eI g.times]
abbrev eNI (p : ByteArray × Int) : List AV := [eS p.1, eI p.2]
abbrev eII (p : Int × Int) : List AV := [eI p.1, eI p.2]
abbrev eBI (p : Bool × Int) : List AV := [eB p.1, eI p.2]
abbrev eMod (m : Mod) : List AV := [.sl 1 (m.attrs.map fun s => [eS s]), sI m.inits, .sl 1 (m.users.map fun s => [eS s]), .sl 2 (m.roles.map eNI), .sl 2 (m.stages.map eNI), .sl 5 (m.events.map eEv), .sl 3 (m.guards.map eGd), .sl 5 (m.miles.map eMl), .sl 2 (m.sods.map eII), .sl 2 (m.order.map eBI)]
abbrev eSt (s : St) : List AV := [sI s.vals, eI s.opn, eI s.don, sI s.did, sI s.cnt]
def pars (m : Mod) : List Int := m.stages.map (·.2)
def condOk (m : Mod) : Prop := (∀ g ∈ m.guards, ∀ x ∈ g.cond, x.ok) ∧ ∀ g ∈ m.miles, ∀ x ∈ g.cond, x.ok
theorem mixedT : Tryz.prog.follows .mixedOrders = true := by kernel_rfl

def greatS (m : Mod) : Prop := m.guards.length ≤ 14 ∧ m.miles.length ≤ 10 ∧ m.stages.length ≤ 10 ∧ m.events.length ≤ 10 ∧ m.attrs.length ≤ 10 ∧ m.users.length ≤ 10 ∧ m.roles.length ≤ 10 ∧ m.sods.length ≤ 10 ∧ m.order.length ≤ 40 ∧ m.inits.length ≤ 10
/-- a model that is not too much -/
structure Fit (m : Mod) : Prop where
  sizes : greatS m
  guards : ∀ g ∈ m.guards, g.cond.length ≤ 80
  miles : ∀ g ∈ m.miles, g.cond.length ≤ 80
  events : ∀ g ∈ m.events, g.sets.length ≤ 10
def FitS (s : St) : Prop := s.vals.length ≤ 150 ∧ s.did.length ≤ 150 ∧ s.cnt.length ≤ 150

set_option maxRecDepth 100000 in
set_option maxHeartbeats 4000000 in
theorem great12_A (m : Mod) : ARel Tryz.prog 23 [.agg (eMod m)] fun R => ∃ b, R = val (.bool b) ∧ (b = false → Fit m) := by
  refine arel_of_code mixedT Tryz.func23 rfl (by decide) Tryz.ntmps23 Tryz.results23 rfl ?_
  (repeat' (first | simp (maxSteps := 5000000) (implicitDefEqProofs := false) only [ruA, ruB, aEv, aTake, aLoad, aField, aLen, aBin, bin2, ASt.get, aget, ASt.put, aBox, aCells, oneC, oneCL, envOf, aResL, aOne, ↓reduceIte, reduceCtorEq, Nat.reduceLT, Nat.reduceEqDiff, Nat.reduceAdd, Nat.reduceLeDiff, eq_self, ne_eq, tyF_32_6, tyA_27, tyS_27, tyE_27, tyF_32_7, tyA_28, tyS_28, tyE_28, tyF_32_4, tyA_25, tyS_25, tyE_25, tyF_32_5, tyA_26, tyS_26, tyE_26, tyF_32_0, tyA_22, tyS_22, tyE_22, tyF_32_2, tyF_32_3, tyA_24, tyS_24, tyE_24, tyF_32_8, tyA_29, tyS_29, tyE_29, tyF_32_9, tyA_30, tyS_30, tyE_30, tyF_32_1, tyA_23, tyS_23, tyE_23] | (with_reducible refine aIf_split (fun _ => ?_) (fun _ => ?_)) | (with_reducible refine aSel_split (fun _ => ?_) (fun _ => ?_)) | (with_reducible refine aGd_split (fun _ => ?_) (fun _ => ?_))))
  all_goals first | with_reducible exact retV ⟨true, rfl, fun h => by cases h⟩ | skip
  have hS : greatS m := by simp_all [greatS]; omega
  obtain ⟨h1, h2, h3, h4, h5, h6, h7, h8, h9, h10⟩ := id hS
  refine aLoop_of (fun st => ∃ k : Nat, k ≤ m.guards.length ∧ (∀ i (h : i < m.guards.length), i < k → m.guards[i].cond.length ≤ 80) ∧ st = ⟨109, [(1, .op 0 0 0), (3, eI (k : Int))], [(0, some (.box 32 (eMod m)))], 1⟩) (fun st => m.guards.length - slotN st 3) ⟨_, (weak_cut1 (by (first | ((simp only [envIn, tabIn, envLt, tabLt, AObj.lt, AV.lt, AV.ltL, ruW, ASt.get, aget, ↓reduceIte, Nat.reduceLT, Nat.reduceEqDiff, eq_self]) <;> (repeat' apply And.intro) <;> first | (rw [wrapK (by omega)]; done) | (simp; done) | omega) | fail))), 0, Nat.zero_le _, ?_, rfl⟩ ?_
  · exact fun i h h2 => absurd h2 (by omega)
  rintro _ ⟨k, hk, hg, rfl⟩
  by_cases hlt : k < m.guards.length
  · (repeat' (first | simp (maxSteps := 5000000) (implicitDefEqProofs := false) only [ruA, ruB, aEv, aTake, aLoad, aField, aIndex, aLen, aBin, bin2, ASt.get, aget, ASt.put, aResL, aOne, ↓reduceIte, reduceCtorEq, Nat.reduceLT, Nat.reduceEqDiff, Nat.reduceAdd, Nat.reduceLeDiff, eq_self, ne_eq, tyF_32_6, tyA_27, tyS_27, tyE_27, tyF_84_2, tyA_82, tyS_82, tyE_82, row_at, hlt] | (with_reducible refine aIf_split (fun _ => ?_) (fun _ => ?_)) | (with_reducible refine aSel_split (fun _ => ?_) (fun _ => ?_)) | (with_reducible refine aGd_split (fun _ => ?_) (fun _ => ?_))))
    · with_reducible exact retV ⟨true, rfl, fun h => by cases h⟩
    · rename_i hc
      refine roundI (weak_cut1 (by (first | ((simp only [envIn, tabIn, envLt, tabLt, AObj.lt, AV.lt, AV.ltL, ruW, ASt.get, aget, ↓reduceIte, Nat.reduceLT, Nat.reduceEqDiff, eq_self]) <;> (repeat' apply And.intro) <;> first | (rw [wrapK (by omega)]; done) | (simp; done) | omega) | fail))) ⟨k + 1, by omega, fun i h h2 => ?_, rfl⟩ (by simp only [slotN, ASt.get, aget, ↓reduceIte, Nat.reduceLT, Nat.reduceEqDiff, eq_self]; omega)
      rcases Nat.lt_or_ge i k with h3 | h3
      · exact hg i h h3
      · obtain rfl : i = k := by omega
        simp at hc
        omega
  simp (maxSteps := 5000000) (implicitDefEqProofs := false) only [ruA, ruB, aEv, aTake, aLoad, aField, aLen, aBin, bin2, ASt.get, aget, ASt.put, ↓reduceIte, reduceCtorEq, Nat.reduceLT, Nat.reduceEqDiff, Nat.reduceAdd, Nat.reduceLeDiff, eq_self, ne_eq, tyF_32_6, tyA_27, tyS_27, tyE_27, hlt]
  refine aLoop_of (fun st => ∃ q : Nat, q ≤ m.miles.length ∧ (∀ i (h : i < m.miles.length), i < q → m.miles[i].cond.length ≤ 80) ∧ st = ⟨109, [(1, .op 0 0 0), (4, eI (q : Int))], [(0, some (.box 32 (eMod m)))], 1⟩) (fun st => m.miles.length - slotN st 4) ⟨_, (weak_cut1 (by (first | ((simp only [envIn, tabIn, envLt, tabLt, AObj.lt, AV.lt, AV.ltL, ruW, ASt.get, aget, ↓reduceIte, Nat.reduceLT, Nat.reduceEqDiff, eq_self]) <;> (repeat' apply And.intro) <;> first | (rw [wrapK (by omega)]; done) | (simp; done) | omega) | fail))), 0, Nat.zero_le _, ?_, rfl⟩ ?_
  · exact fun i h h2 => absurd h2 (by omega)
  rintro _ ⟨q, hq, hm, rfl⟩
  by_cases hlt2 : q < m.miles.length
  · (repeat' (first | simp (maxSteps := 5000000) (implicitDefEqProofs := false) only [ruA, ruB, aEv, aTake, aLoad, aField, aIndex, aLen, aBin, bin2, ASt.get, aget, ASt.put, aResL, aOne, ↓reduceIte, reduceCtorEq, Nat.reduceLT, Nat.reduceEqDiff, Nat.reduceAdd, Nat.reduceLeDiff, eq_self, ne_eq, tyF_32_7, tyA_28, tyS_28, tyE_28, tyA_82, tyS_82, tyE_82, tyF_86_3, row_at, hlt2] | (with_reducible refine aIf_split (fun _ => ?_) (fun _ => ?_)) | (with_reducible refine aSel_split (fun _ => ?_) (fun _ => ?_)) | (with_reducible refine aGd_split (fun _ => ?_) (fun _ => ?_))))
    · with_reducible exact retV ⟨true, rfl, fun h => by cases h⟩
    · rename_i hc
      refine roundI (weak_cut1 (by (first | ((simp only [envIn, tabIn, envLt, tabLt, AObj.lt, AV.lt, AV.ltL, ruW, ASt.get, aget, ↓reduceIte, Nat.reduceLT, Nat.reduceEqDiff, eq_self]) <;> (repeat' apply And.intro) <;> first | (rw [wrapK (by omega)]; done) | (simp; done) | omega) | fail))) ⟨q + 1, by omega, fun i h h2 => ?_, rfl⟩ (by simp only [slotN, ASt.get, aget, ↓reduceIte, Nat.reduceLT, Nat.reduceEqDiff, eq_self]; omega)
      rcases Nat.lt_or_ge i q with h3 | h3
      · exact hm i h h3
      · obtain rfl : i = q := by omega
        simp at hc
        omega
  simp (maxSteps := 5000000) (implicitDefEqProofs := false) only [ruA, ruB, aEv, aTake, aLoad, aField, aLen, aBin, bin2, ASt.get, aget, ASt.put, ↓reduceIte, reduceCtorEq, Nat.reduceLT, Nat.reduceEqDiff, Nat.reduceAdd, Nat.reduceLeDiff, eq_self, ne_eq, tyF_32_7, tyA_28, tyS_28, tyE_28, hlt2]
  refine aLoop_of (fun st => ∃ r : Nat, r ≤ m.events.length ∧ (∀ i (h : i < m.events.length), i < r → m.events[i].sets.length ≤ 10) ∧ st = ⟨109, [(1, .op 0 0 0), (5, eI (r : Int))], [(0, some (.box 32 (eMod m)))], 1⟩) (fun st => m.events.length - slotN st 5) ⟨_, (weak_cut1 (by (first | ((simp only [envIn, tabIn, envLt, tabLt, AObj.lt, AV.lt, AV.ltL, ruW, ASt.get, aget, ↓reduceIte, Nat.reduceLT, Nat.reduceEqDiff, eq_self]) <;> (repeat' apply And.intro) <;> first | (rw [wrapK (by omega)]; done) | (simp; done) | omega) | fail))), 0, Nat.zero_le _, ?_, rfl⟩ ?_
  · exact fun i h h2 => absurd h2 (by omega)
  rintro _ ⟨r, hr, he, rfl⟩
  by_cases hlt3 : r < m.events.length
  · (repeat' (first | simp (maxSteps := 5000000) (implicitDefEqProofs := false) only [ruA, ruB, aEv, aTake, aLoad, aField, aIndex, aLen, aBin, bin2, ASt.get, aget, ASt.put, aResL, aOne, ↓reduceIte, reduceCtorEq, Nat.reduceLT, Nat.reduceEqDiff, Nat.reduceAdd, Nat.reduceLeDiff, eq_self, ne_eq, tyF_32_5, tyA_26, tyS_26, tyE_26, tyF_56_3, tyA_33, tyS_33, tyE_33, row_at, hlt3] | (with_reducible refine aIf_split (fun _ => ?_) (fun _ => ?_)) | (with_reducible refine aSel_split (fun _ => ?_) (fun _ => ?_)) | (with_reducible refine aGd_split (fun _ => ?_) (fun _ => ?_))))
    · with_reducible exact retV ⟨true, rfl, fun h => by cases h⟩
    · rename_i hc
      refine roundI (weak_cut1 (by (first | ((simp only [envIn, tabIn, envLt, tabLt, AObj.lt, AV.lt, AV.ltL, ruW, ASt.get, aget, ↓reduceIte, Nat.reduceLT, Nat.reduceEqDiff, eq_self]) <;> (repeat' apply And.intro) <;> first | (rw [wrapK (by omega)]; done) | (simp; done) | omega) | fail))) ⟨r + 1, by omega, fun i h h2 => ?_, rfl⟩ (by simp only [slotN, ASt.get, aget, ↓reduceIte, Nat.reduceLT, Nat.reduceEqDiff, eq_self]; omega)
      rcases Nat.lt_or_ge i r with h3 | h3
      · exact he i h h3
      · obtain rfl : i = r := by omega
        simp at hc
        omega
  simp (maxSteps := 5000000) (implicitDefEqProofs := false) only [ruA, ruB, aEv, aTake, aLoad, aField, aLen, aBin, bin2, ASt.get, aget, ASt.put, aResL, aOne, ↓reduceIte, reduceCtorEq, Nat.reduceLT, Nat.reduceEqDiff, Nat.reduceAdd, Nat.reduceLeDiff, eq_self, ne_eq, tyF_32_5, tyA_26, tyS_26, tyE_26, hlt3]
  refine retV ⟨false, rfl, fun _ => ⟨hS, fun g hg' => ?_, fun g hg' => ?_, fun g hg' => ?_⟩⟩
  · obtain ⟨i, hi, rfl⟩ := List.getElem_of_mem hg'
    exact hg i hi (by omega)
  · obtain ⟨i, hi, rfl⟩ := List.getElem_of_mem hg'
    exact hm i hi (by omega)
  · obtain ⟨i, hi, rfl⟩ := List.getElem_of_mem hg'
    exact he i hi (by omega)
set_option maxRecDepth 100000 in
theorem great15_A (s : St) : ARel Tryz.prog 7 [.agg (eSt s)] fun R => ∃ b, R = val (.bool b) ∧ (b = false → FitS s) := by
  refine arel_of_code mixedT Tryz.func7 rfl (by decide) Tryz.ntmps7 Tryz.results7 rfl ?_
  (repeat' (first | simp (maxSteps := 5000000) (implicitDefEqProofs := false) only [ruA, ruB, aEv, aTake, aLoad, aField, aLen, aBin, bin2, ASt.get, aget, ASt.put, aBox, aCells, oneC, oneCL, Value.oneCell', envOf, aResL, aOne, ↓reduceIte, reduceCtorEq, Nat.reduceLT, Nat.reduceEqDiff, Nat.reduceAdd, Nat.reduceLeDiff, eq_self, ne_eq, tyF_35_0, tyA_23, tyS_23, tyE_23, tyF_35_3, tyA_33, tyS_33, tyE_33, tyF_35_4] | (with_reducible refine aIf_split (fun _ => ?_) (fun _ => ?_)) | (with_reducible refine aSel_split (fun _ => ?_) (fun _ => ?_)) | (with_reducible refine aGd_split (fun _ => ?_) (fun _ => ?_))))
  all_goals with_reducible refine retV ⟨_, rfl, fun h => ?_⟩
  all_goals first | (cases h; done) | (simp_all [FitS]; omega)
def inB (n most : Int) : Bool := decide (0 ≤ n) && decide (n < most)
theorem same03_A (a b : List Int) (ha : a.length ≤ 1000000) : ADet Tryz.prog 33 [sI a, sI b] (val (.bool (decide (a = b)))) := by
  refine adet_of_code mixedT Tryz.func33 rfl (by decide) Tryz.ntmps33 Tryz.results33 rfl (val_ok _) ?_
  simp (maxSteps := 5000000) (implicitDefEqProofs := false) only [ruA, ruB, aEv, aLen, aBin, bin2, ASt.get, aget, ASt.put, envOf, ↓reduceIte, reduceCtorEq, Nat.reduceLT, Nat.reduceEqDiff, eq_self, ne_eq, tyE_23]
  with_reducible refine aIf_split (fun he => ?_) (fun he => ?_) <;> simp (maxSteps := 5000000) (implicitDefEqProofs := false) only [ruA, ruB, aEv, ASt.get, aget, ASt.put, aResL, aOne, ↓reduceIte, Nat.reduceLT, eq_self]
  · symm
    rw [decide_eq_false_iff_not]
    rintro rfl
    simp at he
  have hl : a.length = b.length := by simp at he; omega
  refine aLoop_of (fun st => ∃ k : Nat, k ≤ a.length ∧ (∀ i (h : i < a.length) (h2 : i < b.length), i < k → a[i] = b[i]) ∧ st = ⟨26, [(0, sI a), (1, sI b), (5, eI (k : Int))], [], 0⟩) (fun st => a.length - slotN st 5) ⟨_, (weak_cut1 (by (first | ((simp only [envIn, tabIn, envLt, tabLt, AV.lt, ruW, ASt.get, aget, ↓reduceIte, reduceCtorEq, Nat.reduceLT, Nat.reduceEqDiff, eq_self]) <;> (repeat' apply And.intro) <;> first | (rw [wrapK (by omega)]; done) | (simp; done) | omega) | fail))), 0, Nat.zero_le _, ?_, rfl⟩ ?_
  · exact fun i h h2 h3 => absurd h3 (by omega)
  rintro _ ⟨k, hk, hI, rfl⟩
  by_cases hlt : k < a.length
  · have hlt2 : k < b.length := by omega
    simp (maxSteps := 5000000) (implicitDefEqProofs := false) only [ruA, ruB, aEv, aLen, aBin, bin2, ASt.get, aget, ASt.put, ↓reduceIte, reduceCtorEq, Nat.reduceLT, Nat.reduceEqDiff, eq_self, ne_eq, tyE_23, hlt]
    refine aDraw_quiet (by kernel_rfl) ?_
    simp (maxSteps := 5000000) (implicitDefEqProofs := false) only [ruA, ruB, aEv, aTake, aLoad, aIndex, aBin, bin2, ASt.get, aget, ASt.put, ↓reduceIte, reduceCtorEq, Nat.reduceLT, Nat.reduceEqDiff, eq_self, tyE_23, tyA_2, tyS_2, row_at, hlt, hlt2]
    with_reducible refine aIf_split (fun hn => ?_) (fun hn => ?_) <;> simp (maxSteps := 5000000) (implicitDefEqProofs := false) only [ruA, ruB, aEv, aBin, bin2, ASt.get, aget, ASt.put, aResL, aOne, ↓reduceIte, Nat.reduceLT, Nat.reduceEqDiff, eq_self]
    · symm
      rw [decide_eq_false_iff_not]
      rintro rfl
      simp at hn
    · refine roundI (weak_cut1 (by (first | ((simp only [envIn, tabIn, envLt, tabLt, AV.lt, ruW, ASt.get, aget, ↓reduceIte, reduceCtorEq, Nat.reduceLT, Nat.reduceEqDiff, eq_self]) <;> (repeat' apply And.intro) <;> first | (rw [wrapK (by omega)]; done) | (simp; done) | omega) | fail))) ⟨k + 1, by omega, fun i h h2 h3 => ?_, rfl⟩ (by simp only [slotN, ruW, ASt.get, aget, ↓reduceIte, Nat.reduceLT, Nat.reduceEqDiff, eq_self]; omega)
      rcases Nat.lt_or_ge i k with h4 | h4
      · exact hI i h h2 h4
      · obtain rfl : i = k := by omega
        simpa using hn
  · simp (maxSteps := 5000000) (implicitDefEqProofs := false) only [ruA, ruB, aEv, aLen, aBin, bin2, ASt.get, aget, ASt.put, aResL, aOne, ↓reduceIte, reduceCtorEq, Nat.reduceLT, Nat.reduceEqDiff, eq_self, ne_eq, tyE_23, hlt]
    symm
    rw [decide_eq_true_iff]
    exact List.ext_getElem hl fun i h1 h2 => hI i h1 h2 (by omega)
theorem same10_A (a b : List Int) (ha : a.length ≤ 1000000) : ADet Tryz.prog 28 [sI a, sI b] (val (.bool (decide (a = b)))) := by
  refine adet_of_code mixedT Tryz.func28 rfl (by decide) Tryz.ntmps28 Tryz.results28 rfl (val_ok _) ?_
  simp (maxSteps := 5000000) (implicitDefEqProofs := false) only [ruA, ruB, aEv, aLen, aBin, bin2, ASt.get, aget, ASt.put, envOf, ↓reduceIte, reduceCtorEq, Nat.reduceLT, Nat.reduceEqDiff, eq_self, ne_eq, tyE_33]
  with_reducible refine aIf_split (fun he => ?_) (fun he => ?_) <;> simp (maxSteps := 5000000) (implicitDefEqProofs := false) only [ruA, ruB, aEv, ASt.get, aget, ASt.put, aResL, aOne, ↓reduceIte, Nat.reduceLT, eq_self]
  · symm
    rw [decide_eq_false_iff_not]
    rintro rfl
    simp at he
  have hl : a.length = b.length := by simp at he; omega
  refine aLoop_of (fun st => ∃ k : Nat, k ≤ a.length ∧ (∀ i (h : i < a.length) (h2 : i < b.length), i < k → a[i] = b[i]) ∧ st = ⟨26, [(0, sI a), (1, sI b), (5, eI (k : Int))], [], 0⟩) (fun st => a.length - slotN st 5) ⟨_, (weak_cut1 (by (first | ((simp only [envIn, tabIn, envLt, tabLt, AV.lt, ruW, ASt.get, aget, ↓reduceIte, reduceCtorEq, Nat.reduceLT, Nat.reduceEqDiff, eq_self]) <;> (repeat' apply And.intro) <;> first | (rw [wrapK (by omega)]; done) | (simp; done) | omega) | fail))), 0, Nat.zero_le _, ?_, rfl⟩ ?_
  · exact fun i h h2 h3 => absurd h3 (by omega)
  rintro _ ⟨k, hk, hI, rfl⟩
  by_cases hlt : k < a.length
  · have hlt2 : k < b.length := by omega
    simp (maxSteps := 5000000) (implicitDefEqProofs := false) only [ruA, ruB, aEv, aLen, aBin, bin2, ASt.get, aget, ASt.put, ↓reduceIte, reduceCtorEq, Nat.reduceLT, Nat.reduceEqDiff, eq_self, ne_eq, tyE_33, hlt]
    refine aDraw_quiet (by kernel_rfl) ?_
    simp (maxSteps := 5000000) (implicitDefEqProofs := false) only [ruA, ruB, aEv, aTake, aLoad, aIndex, aBin, bin2, ASt.get, aget, ASt.put, ↓reduceIte, reduceCtorEq, Nat.reduceLT, Nat.reduceEqDiff, eq_self, tyE_33, tyA_3, tyS_3, row_at, hlt, hlt2]
    with_reducible refine aIf_split (fun hn => ?_) (fun hn => ?_) <;> simp (maxSteps := 5000000) (implicitDefEqProofs := false) only [ruA, ruB, aEv, aBin, bin2, ASt.get, aget, ASt.put, aResL, aOne, ↓reduceIte, Nat.reduceLT, Nat.reduceEqDiff, eq_self]
    · symm
      rw [decide_eq_false_iff_not]
      rintro rfl
      simp at hn
    · refine roundI (weak_cut1 (by (first | ((simp only [envIn, tabIn, envLt, tabLt, AV.lt, ruW, ASt.get, aget, ↓reduceIte, reduceCtorEq, Nat.reduceLT, Nat.reduceEqDiff, eq_self]) <;> (repeat' apply And.intro) <;> first | (rw [wrapK (by omega)]; done) | (simp; done) | omega) | fail))) ⟨k + 1, by omega, fun i h h2 h3 => ?_, rfl⟩ (by simp only [slotN, ruW, ASt.get, aget, ↓reduceIte, Nat.reduceLT, Nat.reduceEqDiff, eq_self]; omega)
      rcases Nat.lt_or_ge i k with h4 | h4
      · exact hI i h h2 h4
      · obtain rfl : i = k := by omega
        simpa using hn
  · simp (maxSteps := 5000000) (implicitDefEqProofs := false) only [ruA, ruB, aEv, aLen, aBin, bin2, ASt.get, aget, ASt.put, aResL, aOne, ↓reduceIte, reduceCtorEq, Nat.reduceLT, Nat.reduceEqDiff, eq_self, ne_eq, tyE_33, hlt]
    symm
    rw [decide_eq_true_iff]
    exact List.ext_getElem hl fun i h1 h2 => hI i h1 h2 (by omega)
end
section
theorem nodup_len : ∀ (n : Nat) (l : List Int), l.Nodup → (∀ x ∈ l, 0 ≤ x ∧ x < (n : Int)) → l.length ≤ n := by
  intro n
  induction n with
  | zero =>
    intro l _ h
    cases l with
    | nil => simp
    | cons x l => have := h x (by simp); omega
  | succ n ih =>
    intro l hn h
    by_cases hm : (n : Int) ∈ l
    · have h1 := ih (l.erase (n : Int)) (hn.erase _) (fun x hx => by
        have := (hn.mem_erase_iff).1 hx
        have := h x this.2
        omega)
      rw [List.length_erase_of_mem hm] at h1
      omega
    · have := ih l hn (fun x hx => by
        have h2 := h x hx
        have : x ≠ (n : Int) := fun e => hm (e ▸ hx)
        omega)
      omega

/-- is it a place? -/
def isAt (l : List Int) (i : Int) : Prop := 0 ≤ i ∧ i < (l.length : Int)
instance (l : List Int) (i : Int) : Decidable (isAt l i) := by unfold isAt; infer_instance
/-- the place itself; -1: it is none -/
def norm (l : List Int) (i : Int) : Int := if isAt l i then i else -1
/-- the place that a place lies in; -1: none -/
def par (l : List Int) (i : Int) : Int := if isAt l i then norm l (l.getD i.toNat 0) else -1
def upN (l : List Int) (i : Int) : Nat → Int
  | 0 => norm l i
  | k + 1 => par l (upN l i k)
/-- the places above, so many at the most -/
def goUp (l : List Int) (i : Int) : Nat → Int → List Int → List Int
  | 0, _, out => out
  | f + 1, p, out => if par l p = -1 ∨ par l p = i ∨ par l p ∈ out then out else goUp l i f (par l p) (out ++ [par l p])
def aboveL (l : List Int) (i : Int) : List Int := goUp l i l.length i []

theorem norm_cases (l : List Int) (i : Int) : (isAt l i ∧ norm l i = i) ∨ (¬ isAt l i ∧ norm l i = -1) := by
  unfold norm; split <;> simp [*]
theorem norm_at (l : List Int) (i : Int) : norm l i = -1 ∨ isAt l (norm l i) := by
  rcases norm_cases l i with ⟨h, e⟩ | ⟨_, e⟩ <;> rw [e]
  · exact .inr h
  · exact .inl rfl
theorem par_at (l : List Int) (i : Int) : par l i = -1 ∨ isAt l (par l i) := by
  unfold par; split
  · exact norm_at _ _
  · exact .inl rfl
theorem par_norm (l : List Int) (i : Int) : par l (norm l i) = par l i := by
  rcases norm_cases l i with ⟨h, e⟩ | ⟨h, e⟩
  · rw [e]
  · rw [e]; unfold par; rw [if_neg h, if_neg (by simp [isAt])]
theorem par_none (l : List Int) : par l (-1) = -1 := by unfold par; rw [if_neg (by simp [isAt])]
theorem upN_none (l : List Int) (i : Int) (k : Nat) (h : upN l i k = -1) : ∀ d, upN l i (k + d) = -1
  | 0 => h
  | d + 1 => by rw [← Nat.add_assoc, upN, upN_none l i k h d, par_none]
theorem upN_one (l : List Int) (i : Int) : upN l i 1 = par l i := par_norm l i

/-- the state of the way up: so many places told, all unlike, none the first one -/
structure UpAt (l : List Int) (i : Int) (m : Nat) (p : Int) (out : List Int) : Prop where
  len : out.length = m
  eq : ∀ j, j < m → out[j]? = some (upN l i (j + 1))
  cur : par l p = upN l i (m + 1)
  nodup : out.Nodup
  at_ : ∀ x ∈ out, isAt l x
  not : i ∉ out
  room : m ≤ l.length
  rest : goUp l i (l.length - m) p out = aboveL l i
theorem UpAt.start (l : List Int) (i : Int) : UpAt l i 0 i [] :=
  ⟨rfl, fun j h => by omega, (upN_one l i).symm, List.nodup_nil, fun x h => by simp at h, by simp, by omega, rfl⟩
def stops (l : List Int) (i : Int) (p : Int) (out : List Int) : Prop := par l p = -1 ∨ par l p = i ∨ par l p ∈ out
instance (l : List Int) (i p : Int) (out : List Int) : Decidable (stops l i p out) := by unfold stops; infer_instance
theorem UpAt.stop {l : List Int} {i : Int} {m : Nat} {p : Int} {out : List Int} (h : UpAt l i m p out) (hs : stops l i p out) : out = aboveL l i := by
  rw [← h.rest]
  cases l.length - m with
  | zero => rfl
  | succ f => rw [goUp]; exact (if_pos hs).symm
theorem UpAt.next {l : List Int} {i : Int} {m : Nat} {p : Int} {out : List Int} (h : UpAt l i m p out) (hs : ¬ stops l i p out) : UpAt l i (m + 1) (par l p) (out ++ [par l p]) ∧ m + 1 ≤ l.length := by
  unfold stops at hs
  simp only [not_or] at hs
  have hat : isAt l (par l p) := (par_at l p).resolve_left hs.1
  have hnd : (out ++ [par l p]).Nodup := by
    rw [List.nodup_append]
    refine ⟨h.nodup, by simp, fun a ha b hb e => ?_⟩
    simp at hb
    subst hb; subst e
    exact hs.2.2 ha
  have hall : ∀ x ∈ out ++ [par l p], isAt l x := by
    intro x hx
    rcases List.mem_append.1 hx with hx | hx
    · exact h.at_ x hx
    · simp at hx; subst hx; exact hat
  have hlen : m + 1 ≤ l.length := by
    have := nodup_len l.length _ hnd hall
    simp [h.len] at this
    exact this
  refine ⟨⟨by simp [h.len], fun j hj => ?_, by rw [show upN l i (m + 1 + 1) = par l (upN l i (m + 1)) from rfl, h.cur], hnd, hall, ?_, hlen, ?_⟩, hlen⟩
  · by_cases hjm : j < m
    · rw [List.getElem?_append_left (by rw [h.len]; exact hjm)]; exact h.eq j hjm
    · have : j = m := by omega
      subst this
      rw [List.getElem?_append_right (by rw [h.len]; omega), h.len, Nat.sub_self]
      simp [h.cur]
  · intro hi
    rcases List.mem_append.1 hi with hi | hi
    · exact h.not hi
    · simp at hi; exact hs.2.1 hi.symm
  · have := h.rest
    rw [show l.length - m = (l.length - (m + 1)) + 1 from by omega, goUp, if_neg (by simp only [not_or]; exact hs)] at this
    exact this
/-- the way up ends -/
theorem up_end (l : List Int) (i : Int) : ∃ m p, UpAt l i m p (aboveL l i) ∧ stops l i p (aboveL l i) := by
  have key : ∀ (f m : Nat) (p : Int) (out : List Int), UpAt l i m p out → l.length + 1 - m ≤ f → ∃ m p, UpAt l i m p (aboveL l i) ∧ stops l i p (aboveL l i) := by
    intro f
    induction f with
    | zero => intro m p out h hf; have := h.room; omega
    | succ f ih =>
      intro m p out h hf
      by_cases hs : stops l i p out
      · have e := h.stop hs
        rw [e] at h hs
        exact ⟨m, p, h, hs⟩
      · have := (h.next hs).1
        exact ih _ _ _ this (by omega)
  exact key _ 0 i [] (UpAt.start l i) (Nat.le_refl _)

/-- does the way up come back to where it began? -/
def circ (l : List Int) (i : Int) : Prop := isAt l i ∧ par l (((aboveL l i).getLast?).getD i) = i
instance (l : List Int) (i : Int) : Decidable (circ l i) := by unfold circ; infer_instance
/-- where the way up goes on -/
theorem up_all {l : List Int} {i : Int} {m : Nat} {p : Int} (h : UpAt l i m p (aboveL l i)) (hs : stops l i p (aboveL l i)) (hc : upN l i (m + 1) ≠ i ∨ i = -1) : ∀ j, upN l i (j + 1) = -1 ∨ upN l i (j + 1) ∈ aboveL l i := by
  have hst : upN l i (m + 1) = -1 ∨ upN l i (m + 1) ∈ aboveL l i := by
    rw [← h.cur]
    rcases hs with hs | hs | hs
    · exact .inl hs
    · rw [h.cur] at hs
      rcases hc with hc | hc
      · exact absurd hs hc
      · rw [h.cur, hs, hc]; exact .inl rfl
    · exact .inr hs
  intro j
  induction j with
  | zero =>
    cases m with
    | zero => exact hst
    | succ m => exact .inr (List.mem_of_getElem? (h.eq 0 (by omega)))
  | succ j ih =>
    rcases ih with ih | ih
    · left; rw [upN, ih, par_none]
    · obtain ⟨a, ha⟩ := List.mem_iff_getElem?.1 ih
      have ham : a < m := by rw [← h.len]; exact (List.getElem?_eq_some_iff.1 ha).1
      rw [h.eq a ham] at ha
      have e : upN l i (j + 1 + 1) = upN l i (a + 1 + 1) := by
        show par l (upN l i (j + 1)) = par l (upN l i (a + 1))
        rw [Option.some.inj ha]
      rw [e]
      by_cases ham2 : a + 1 < m
      · exact .inr (List.mem_of_getElem? (h.eq (a + 1) ham2))
      · have : a + 1 = m := by omega
        rw [this]; exact hst
theorem mem_above_up {l : List Int} {i : Int} {x : Int} (hx : x ∈ aboveL l i) : ∃ j, 1 ≤ j ∧ j ≤ l.length ∧ upN l i j = x := by
  obtain ⟨m, p, h, _⟩ := up_end l i
  obtain ⟨a, ha⟩ := List.mem_iff_getElem?.1 hx
  have ham : a < m := by rw [← h.len]; exact (List.getElem?_eq_some_iff.1 ha).1
  rw [h.eq a ham] at ha
  exact ⟨a + 1, by omega, by have := h.room; omega, Option.some.inj ha⟩
/-- what lies above is what some steps up lead to -/
theorem mem_above (l : List Int) (i x : Int) (hx : 0 ≤ x) (hne : i ≠ x) : x ∈ aboveL l i ↔ ∃ j, 1 ≤ j ∧ j ≤ l.length ∧ upN l i j = x := by
  refine ⟨mem_above_up, fun ⟨j, h1, h2, h3⟩ => ?_⟩
  obtain ⟨m, p, h, hs⟩ := up_end l i
  by_cases hc : upN l i (m + 1) = i
  · -- it comes back to i: periodic
    have key : ∀ j, upN l i (j + 1) ∈ aboveL l i ∨ upN l i (j + 1) = i ∨ upN l i (j + 1) = -1 := by
      intro j
      induction j with
      | zero =>
        cases m with
        | zero => exact .inr (.inl hc)
        | succ m => exact .inl (List.mem_of_getElem? (h.eq 0 (by omega)))
      | succ j ih =>
        rcases ih with ih | ih | ih
        · obtain ⟨a, ha⟩ := List.mem_iff_getElem?.1 ih
          have ham : a < m := by rw [← h.len]; exact (List.getElem?_eq_some_iff.1 ha).1
          rw [h.eq a ham] at ha
          have e : upN l i (j + 1 + 1) = upN l i (a + 1 + 1) := by
            show par l (upN l i (j + 1)) = par l (upN l i (a + 1))
            rw [Option.some.inj ha]
          rw [e]
          by_cases ham2 : a + 1 < m
          · exact .inl (List.mem_of_getElem? (h.eq (a + 1) ham2))
          · have : a + 1 = m := by omega
            rw [this]; exact .inr (.inl hc)
        · have e : upN l i (j + 1 + 1) = upN l i 1 := by
            show par l (upN l i (j + 1)) = upN l i 1
            rw [ih, upN_one]
          rw [e]
          cases m with
          | zero => exact .inr (.inl hc)
          | succ m => exact .inl (List.mem_of_getElem? (h.eq 0 (by omega)))
        · right; right; rw [upN, ih, par_none]
    have := key (j - 1)
    rw [show j - 1 + 1 = j from by omega, h3] at this
    rcases this with this | this | this
    · exact this
    · exact absurd this.symm hne
    · omega
  · have := up_all h hs (.inl hc) (j - 1)
    rw [show j - 1 + 1 = j from by omega, h3] at this
    rcases this with this | this
    · omega
    · exact this
def belowL (l : List Int) (i : Int) : List Int := if isAt l i then (((List.range l.length).filter fun (k : Nat) => decide ((k : Int) ≠ i ∧ i ∈ aboveL l (k : Int))).map fun (k : Nat) => (k : Int)) else []
def isL (l : List Int) (a i : Int) : Prop := ∃ j, 1 ≤ j ∧ j ≤ l.length ∧ 0 ≤ a ∧ upN l i j = a
end
section
open Go.ChangeShapes Go.WideShapes Go.ChangeAt Go.RowKit

theorem lawOwn : ownKnob Tryz.prog.godebug = none := by kernel_rfl
theorem lawLaid : laidOutB Tryz.prog = true := by kernel_rfl
theorem lawBool : Tryz.prog.underlying 4 = some .bool := Tryz.underlying4

theorem trodAll_below {H : Type} {enc : TypeId × Value → H} {P : Program} (hl : laidOutB P = true) {W W' : World} (hb : Below W.heap.size W W') (sp : Nat → Bool) :
    ∀ {ts : List TypeId} {vs : List Value} {ds : List (DataW H)} {ps : List MemPlace}, (ts.all fun t => P.readableRec t && decide (t < P.types.size)) = true →
      DataW.TrodAll enc P W 0 (fun _ => true) true ts vs ds ps → (∀ x ∈ ps, x.block < W.heap.size) → (∀ p ∈ ps, sp p.block = true) → DataW.TrodAll enc P W' 0 sp true ts vs ds ps
  | [], [], [], _, _, h, _, _ => h
  | t :: ts, v :: vs, d :: ds, ps, ht, h, hlt, hs => by
    obtain ⟨p, q, h1, h2, rfl⟩ := h
    simp only [List.all_cons, Bool.and_eq_true, decide_eq_true_eq] at ht
    refine ⟨p, q, WideElems.Trod_stays hl ht.1.1 ht.1.2 h1 (fun x hx => hb.same (hlt x (List.mem_append.2 (.inl hx)))) (fun x hx => hs x (List.mem_append.2 (.inl hx))), ?_, rfl⟩
    exact trodAll_below hl hb sp (by simpa using ht.2) h2 (fun x hx => hlt x (List.mem_append.2 (.inr hx))) (fun x hx => hs x (List.mem_append.2 (.inr hx)))
  | [], [], _ :: _, _, _, h, _, _ => h.elim
  | [], _ :: _, _, _, _, h, _, _ => h.elim
  | _ :: _, [], _, _, _, h, _, _ => h.elim
  | _ :: _, _ :: _, [], _, _, h, _, _ => h.elim

theorem law_calls {H : Type} {enc : TypeId × Value → H} {f : Func} {s : ChangeSpec} {fid : FuncId} {W : World} {args : Array Value} {ds gs : List (DataW H)} {before : List MemPlace}
    (hts : (f.params.toList.all fun t => Tryz.prog.readableRec t && decide (t < Tryz.prog.types.size)) = true) (hrt : f.resultTypes = #[4]) (hsv : s.vars = [])
    (hW : DataW.Whole enc Tryz.prog f.params.toList s.vars false W args.toList ds gs before)
    (hfn : ∀ gs', gs' = [] → s.fn H (ds ++ gs') = { results := [.lit (.bool true)], args := ds })
    (hc : Calls Tryz.prog fid args W fun e W' => e = .returned (.bool true) ∧ Below W.heap.size W W') :
    Calls Tryz.prog fid args W fun e W' => ∃ v, e = .returned v ∧ s.post enc Tryz.prog f false true false false W args v W' := by
  refine hc.mono fun e W' ⟨he, hb⟩ => ⟨_, he, ?_⟩
  have hW' := hW
  obtain ⟨p, q, hA, hV, rfl, hfz, hnd⟩ := hW
  rw [hsv] at hV
  obtain ⟨rfl, rfl⟩ := trodVars_none hV
  have hlt : ∀ x ∈ p, x.block < W.heap.size := fun x hx => hW'.lt x (List.mem_append.2 (.inl hx))
  have e1 := hfn [] rfl
  refine ⟨ds, [], p ++ [], [], p, [], hW', ?_, ?_, ?_, hb.frame _, fun h => by cases h⟩
  · rw [e1, hrt]
    exact trodAll_mk1 (shut_bool lawBool true)
  · rw [e1]
    exact trodAll_below lawLaid hb _ hts hA hlt (fun x hx => by simpa using hlt x hx)
  · rw [e1, hsv]
    rfl
end
section
open Go.RowKit

/-- a slice of ints reads as a list -/
def RI (w : World) (v : Value) (l : List Int) : Prop := (sliceR (intR .i64)).one w (fun b => b < w.heap.size) v l
theorem RI.below {w w' : World} {v : Value} {l : List Int} (h : RI w v l) (hb : Below w.heap.size w w') : RI w' v l := slice_mono (slice_below h hb fun b h => h) fun b h => Nat.lt_of_lt_of_le h hb.size
theorem RI.form {w : World} {v : Value} {l : List Int} (h : RI w v l) : ∃ A c, v = .slice A l.length c ∧ l.length ≤ c := by
  obtain ⟨A, c, h1, h2, _⟩ := slice_form h
  exact ⟨A, c, h1, h2⟩
theorem RI.at_ {w : World} {A : Option Addr} {n c : Nat} {l : List Int} (h : RI w (.slice A n c) l) {k : Nat} (hk : k < l.length) :
    ∃ b o, A = some ⟨b, o, none⟩ ∧ w.cell? ⟨b, o + k, none⟩ = some (.int .i64 (l.getD k 0)) ∧ -9223372036854775808 ≤ l.getD k 0 ∧ l.getD k 0 ≤ 9223372036854775807 := by
  obtain ⟨b, o, rfl, hb, _⟩ := slice_some h (by omega)
  have := ints_at h hk
  rw [List.getD, List.getElem?_eq_getElem hk]
  exact ⟨b, o, rfl, this⟩
theorem RI.own {w : World} {base : Nat} {v : Value} {n : Nat} {l : List Int} (h : w.ownsRow base 3 1 v n (l.map (Value.int .i64))) (hx : ∀ x ∈ l, -9223372036854775808 ≤ x ∧ x ≤ 9223372036854775807) : RI w v l :=
  slice_mono (slice_own1 (r := intR .i64) _ h rfl fun a ha => ⟨rfl, wf_i64_mk (hx a ha).1 (hx a ha).2⟩) fun b h => h.2

theorem intInfo : (Tryz.prog.info? 3).map (fun i => (i.zero, i.size, i.bytes)) = some (some (.int .i64 0), 1, 8) := by kernel_rfl
theorem one_new (w : World) (n : Int) (t : TypeId) : ∀ j u, [Value.int .i64 n][j]? = some u → (w.alloc (.cells #[.int .i64 n] t)).cell? ((⟨w.heap.size, 0, none⟩ : Addr).add j) = some u := cells_new w [.int .i64 n] t
theorem one_one (n : Int) : ∀ u ∈ [Value.int .i64 n], u.oneCell' = true := by intro u hu; simp at hu; subst hu; rfl

set_option maxHeartbeats 400000 in
theorem index_any (l : List Int) (v : Value) (x : Int) (w : World) (hl : l.length ≤ 4294967296) (hv : RI w v l) :
    Calls Tryz.prog 151 #[v, .int .i64 x] w fun e w' => e = .returned (.int .i64 (((l.findIdx? (· == x)).map fun (n : Nat) => (n : Int)).getD (-1))) ∧ w = w' := by
  obtain ⟨A, c, rfl, hc⟩ := hv.form
  go_enter Tryz.func151, Tryz.ntmps151
  go_wp2_with fail
  go_loop [8] (fun i => ∃ k : Nat, k ≤ l.length ∧ i = .int .i64 (k : Int) ∧ ∀ y ∈ l.take k, ¬ y = x) (fun i => l.length - (intOf i).toNat)
  case atStart => exact ⟨0, Nat.zero_le _, rfl, fun y hy => by simp at hy⟩
  case round =>
    obtain ⟨k, hk, rfl, hno⟩ := hrel
    have Hno := hide hno
    clear hno
    by_cases hlt : k < l.length
    · obtain ⟨b, o, rfl, hcell, hb1, hb2⟩ := hv.at_ hlt
      have htk := hide (List.take_succ_eq_append_getElem hlt)
      have hgk : l.getD k 0 = l[k] := by rw [List.getD, List.getElem?_eq_getElem hlt]; rfl
      rw [hgk] at hcell
      have hfi : (∀ y ∈ l.take k, ¬ y = x) → l[k] = x → l.findIdx? (· == x) = some k := by
        intro h1 h2
        rw [List.findIdx?_eq_some_iff_getElem]
        refine ⟨hlt, by simpa using h2, fun j hj => ?_⟩
        have := h1 l[j] (List.mem_take_iff_getElem.2 ⟨j, by omega, rfl⟩)
        simpa using this
      have Hfi := hide hfi
      clear hgk hfi
      generalize l[k] = y at *
      by_cases hy : y = x
      · have h1 : (x == y) = true := by simp [hy]
        have HE := hide (Hfi.out Hno.out hy)
        clear hy
        go_wp2_with fail
        go_ret
        rw [HE.out]
        exact ⟨rfl, rfl⟩
      · have h1 : (x == y) = false := by simp; exact fun e => hy e.symm
        go_wp2_with fail
        go_round
        case rel =>
          refine ⟨k + 1, by omega, by go_num, fun z hz => ?_⟩
          rw [htk.out] at hz
          rcases List.mem_append.1 hz with hz | hz
          · exact Hno.out z hz
          · simp at hz; subst hz; exact hy
        case measure => simp [intOf]; omega
    · obtain rfl : k = l.length := by omega
      go_wp2_with fail
      go_ret
      have : l.findIdx? (· == x) = none := by
        rw [List.findIdx?_eq_none_iff]
        intro y hy
        have := Hno.out y (by rwa [List.take_length])
        simpa using this
      rw [this]
      exact ⟨rfl, rfl⟩

set_option maxHeartbeats 400000 in
theorem contains_any (l : List Int) (v : Value) (x : Int) (w : World) (hl : l.length ≤ 4294967296) (hv : RI w v l) :
    Calls Tryz.prog 127 #[v, .int .i64 x] w fun e w' => e = .returned (.bool (decide (x ∈ l))) ∧ w = w' := by
  have hcase : (∃ n : Nat, l.findIdx? (· == x) = some n ∧ x ∈ l) ∨ (l.findIdx? (· == x) = none ∧ x ∉ l) := by
    cases h : l.findIdx? (· == x) with
    | none =>
      right
      rw [List.findIdx?_eq_none_iff] at h
      exact ⟨rfl, fun hx => by have := h x hx; simp at this⟩
    | some n =>
      left
      rw [List.findIdx?_eq_some_iff_getElem] at h
      obtain ⟨h1, h2, _⟩ := h
      simp at h2
      exact ⟨n, rfl, by rw [← h2]; exact List.getElem_mem _⟩
  have hix := index_any l v x w hl hv
  rcases hcase with ⟨n, h1, h2⟩ | ⟨h1, h2⟩
  · rw [h1] at hix
    have Hix := hide hix
    clear hix h1
    go_enter Tryz.func127, Tryz.ntmps127
    go_wp2_with (go_at_call 151; refine Hix.out.mono ?_; rintro e w' ⟨rfl, rfl⟩; simp only [Option.map_some, Option.getD_some])
    go_ret
    exact ⟨by simp [h2], rfl⟩
  · rw [h1] at hix
    have Hix := hide hix
    clear hix h1
    go_enter Tryz.func127, Tryz.ntmps127
    go_wp2_with (go_at_call 151; refine Hix.out.mono ?_; rintro e w' ⟨rfl, rfl⟩; simp only [Option.map_none, Option.getD_none])
    go_ret
    exact ⟨by simp [h2], rfl⟩

/-- what nest.in hands back -/
def InPost (l : List Int) (i : Int) (w : World) (e : Ending) (w' : World) : Prop := (par l i = -1 ∧ e = .returned (.tuple #[.int .i64 0, .bool false]) ∨ isAt l (par l i) ∧ e = .returned (.tuple #[.int .i64 (par l i), .bool true])) ∧ w = w'
set_option maxHeartbeats 400000 in
theorem in_any (l : List Int) (v : Value) (i : Int) (w : World) (hl : l.length ≤ 4294967296) (hv : RI w v l) :
    Calls Tryz.prog 152 #[v, .int .i64 i] w (InPost l i w) := by
  obtain ⟨A, c, rfl, hc⟩ := hv.form
  by_cases h1 : isAt l i
  · obtain ⟨h1a, h1b⟩ := h1
    obtain ⟨k, rfl⟩ := Int.eq_ofNat_of_zero_le h1a
    have hk : k < l.length := by omega
    obtain ⟨b, o, rfl, hcell, hb1, hb2⟩ := hv.at_ hk
    have hp : par l (k : Int) = norm l (l.getD k 0) := by unfold par; rw [if_pos ⟨h1a, h1b⟩]; simp
    have hn := norm_cases l (l.getD k 0)
    rw [← hp] at hn
    have Hn := hide hn
    clear hn hp
    generalize l.getD k 0 = y at *
    by_cases h2 : 0 ≤ y
    · by_cases h3 : y < (l.length : Int)
      · have e : par l k = y := by
          rcases Hn.out with ⟨_, e⟩ | ⟨h, _⟩
          · exact e
          · exact absurd ⟨h2, h3⟩ h
        have E := hide e
        clear e
        go_enter Tryz.func152, Tryz.ntmps152
        go_wp2_with fail
        go_ret2
        refine ⟨.inr ⟨?_, ?_⟩, rfl⟩
        · rw [E.out]; exact ⟨h2, h3⟩
        · rw [E.out]; rfl
      · have e : par l k = -1 := by
          rcases Hn.out with ⟨h, _⟩ | ⟨_, e⟩
          · exact absurd h.2 h3
          · exact e
        have E := hide e
        clear e
        go_enter Tryz.func152, Tryz.ntmps152
        go_wp2_with fail
        go_ret2
        exact ⟨.inl ⟨E.out, rfl⟩, rfl⟩
    · have e : par l k = -1 := by
        rcases Hn.out with ⟨h, _⟩ | ⟨_, e⟩
        · exact absurd h.1 h2
        · exact e
      have E := hide e
      clear e
      go_enter Tryz.func152, Tryz.ntmps152
      go_wp2_with fail
      go_ret2
      exact ⟨.inl ⟨E.out, rfl⟩, rfl⟩
  · have e : par l i = -1 := by unfold par; rw [if_neg h1]
    have E := hide e
    clear e
    by_cases h2 : 0 ≤ i
    · have h3 : (l.length : Int) ≤ i := by
        unfold isAt at h1; omega
      go_enter Tryz.func152, Tryz.ntmps152
      go_wp2_with fail
      go_ret2
      exact ⟨.inl ⟨E.out, rfl⟩, rfl⟩
    · go_enter Tryz.func152, Tryz.ntmps152
      go_wp2_with fail
      go_ret2
      exact ⟨.inl ⟨E.out, rfl⟩, rfl⟩


/-- what a function that makes a list of ints hands back -/
def ListPost (L : List Int) (w : World) (e : Ending) (w' : World) : Prop := ∃ v, e = .returned v ∧ w'.ownsRow w.heap.size 3 1 v L.length (L.map (Value.int .i64)) ∧ Below w.heap.size w w'

theorem in_no (l : List Int) (v : Value) (i : Int) (w : World) (hl : l.length ≤ 4294967296) (hv : RI w v l) (h : par l i = -1) :
    Calls Tryz.prog 152 #[v, .int .i64 i] w fun e w' => e = .returned (.tuple #[.int .i64 0, .bool false]) ∧ w = w' :=
  (in_any l v i w hl hv).mono fun e w' ⟨hh, hw⟩ => by
    rcases hh with ⟨_, he⟩ | ⟨hat, _⟩
    · exact ⟨he, hw⟩
    · rw [h] at hat; exact absurd hat.1 (by omega)
theorem in_yes (l : List Int) (v : Value) (i y : Int) (w : World) (hl : l.length ≤ 4294967296) (hv : RI w v l) (h : par l i = y) (hy : isAt l y) :
    Calls Tryz.prog 152 #[v, .int .i64 i] w fun e w' => e = .returned (.tuple #[.int .i64 y, .bool true]) ∧ w = w' :=
  (in_any l v i w hl hv).mono fun e w' ⟨hh, hw⟩ => by
    rcases hh with ⟨hp, _⟩ | ⟨hat, he⟩
    · rw [h] at hp; exact absurd hy.1 (by omega)
    · rw [h] at he; exact ⟨he, hw⟩

def lenOf : Value → Nat | .slice _ n _ => n | _ => 0
/-- a scope that is gone through from a label again and again: what holds at the label suffices -/
theorem wp_scope_label {P : Program} {a : Act} {w : World} {Q : Exit → Act → World → Prop} {c X : Code} (l : Nat) (J : Act → World → Prop) (μ : Act → World → Nat) (hf : findLabel c l = some (Code.skip.seq X))
    (pass : ∀ a w, J a w → X.wp P (Exit.jump l (fun a' w' => J a' w' ∧ μ a' w' < μ a w) Q) a w)
    (first : (∀ a w, J a w → X.wp P (Exit.jump l J Q) a w) → c.wp P (Exit.jump l J Q) a w) : (Code.scope c).wp P Q a w := by
  refine wp_scope_jumps l J μ hf (first fun a w h => wp_mono (pass a w h) ?_) (fun a w h => ?_)
  · intro e a' w' hq
    cases e with
    | goto l' => exact ⟨hq.1, hq.2.1⟩
    | normal => exact hq
    | exit id => exact hq
    | ret => exact hq
    | panic ch => exact hq
    | outgrown => exact hq
  · exact wp_seq (wp_skip (pass a w h))

set_option maxHeartbeats 1000000 in
theorem above_any (l : List Int) (v : Value) (i : Int) (w : World) (hl : l.length ≤ 1073741824) (hv : RI w v l) :
    Calls Tryz.prog 128 #[v, .int .i64 i] w (ListPost (aboveL l i) w) := by
  obtain ⟨i0, hi0, hz0, hz1, hz2⟩ := info_parts intInfo
  have hl : l.length ≤ 4294967296 := by omega
  obtain ⟨A, c, rfl, hc⟩ := hv.form
  go_enter Tryz.func128, Tryz.ntmps128
  go_wp2_with fail
  refine wp_scope_label 0 (fun a' w' => ∃ (m : Nat) (q : Int) (out : List Int) (v' : Value) (u7 u8 u9 u10 u11 u12 u13 u14 u15 u16 u17 u18 u19 u20 u21 u22 u23 u24 u25 u26 u27 u28 u29 u30 u31 u32 u33 : Value),
      a' = { tmps := #[.slice A l.length c, .int .i64 i, undef, undef, .slice none 0 0, v', .int .i64 q, u7, u8, u9, u10, u11, u12, u13, u14, u15, u16, u17, u18, u19, u20, u21, u22, u23, u24, u25, u26, u27, u28, u29, u30, u31, u32, u33], defers := [] } ∧
      UpAt l i m q out ∧ w'.ownsRow w.heap.size 3 1 v' out.length (out.map (Value.int .i64)) ∧ Below w.heap.size w w') (fun a' w' => l.length + 1 - lenOf (a'.tmps.getD 5 undef)) (by rfl) ?_ ?_
  · rintro a' w1 ⟨m, q, out, v', u7, u8, u9, u10, u11, u12, u13, u14, u15, u16, u17, u18, u19, u20, u21, u22, u23, u24, u25, u26, u27, u28, u29, u30, u31, u32, u33, rfl, hup, hown, hb⟩
    have hat := hup.at_
    have hroom := hup.room
    have hlen := hup.len
    have hri : RI w1 v' out := RI.own hown (fun x hx => by have := hat x hx; unfold isAt at this; omega)
    have hl1 : out.length ≤ 4294967296 := by omega
    have hv1 := hv.below hb
    obtain ⟨A', c', rfl, hc'⟩ := hri.form
    have Hstop := hide (hup.stop)
    have Hnext := hide (hup.next)
    have Hlen := hide hlen
    have Hat := hide hat
    clear hat hlen
    rcases par_at l q with hp | hp
    · have hin := in_no l _ q w1 hl hv1 hp
      have Hin := hide hin
      have E := hide (Hstop.out (.inl hp))
      clear hin hp
      go_wp2_with (go_at_call 152; refine Hin.out.mono ?_; rintro e w2 ⟨rfl, rfl⟩)
      simp only [Exit.jump]
      go_ret
      rw [← E.out]
      exact ⟨_, rfl, hown, hb⟩
    · have hin := in_yes l _ q (par l q) w1 hl hv1 rfl hp
      have hpr : 0 ≤ par l q ∧ par l q < (l.length : Int) := hp
      have Hin := hide hin
      have hs1 : par l q = i → out = aboveL l i := fun h => Hstop.out (.inr (.inl h))
      have hs2 : par l q ∈ out → out = aboveL l i := fun h => Hstop.out (.inr (.inr h))
      have hs3 : par l q ≠ i → par l q ∉ out → UpAt l i (m + 1) (par l q) (out ++ [par l q]) ∧ m + 1 ≤ l.length := fun h1 h2 => Hnext.out (fun hh => by
        rcases hh with hh | hh | hh
        · have := hp.1; omega
        · exact h1 hh
        · exact h2 hh)
      have Hs1 := hide hs1
      have Hs2 := hide hs2
      have Hs3 := hide hs3
      clear hin hp hs1 hs2 hs3 Hstop Hnext
      generalize par l q = y at *
      cases h1 : (y == i) with
      | true =>
        have E := hide (Hs1.out (by simpa using h1))
        go_wp2_with (go_at_call 152; refine Hin.out.mono ?_; rintro e w2 ⟨rfl, rfl⟩)
        simp only [Exit.jump]
        go_ret
        rw [← E.out]
        exact ⟨_, rfl, hown, hb⟩
      | false =>
        have hne : y ≠ i := by simpa using h1
        have hcn := contains_any out _ y w1 hl1 hri
        by_cases h2 : y ∈ out
        · rw [show decide (y ∈ out) = true from decide_eq_true h2] at hcn
          have Hcn := hide hcn
          have E := hide (Hs2.out h2)
          clear hcn h2 hne
          go_wp2_with (first
            | (go_at_call 152; refine Hin.out.mono ?_; rintro e w2 ⟨rfl, rfl⟩)
            | (go_at_call 127; refine Hcn.out.mono ?_; rintro e w2 ⟨rfl, rfl⟩))
          simp only [Exit.jump]
          go_ret
          rw [← E.out]
          exact ⟨_, rfl, hown, hb⟩
        · rw [show decide (y ∈ out) = false from decide_eq_false h2] at hcn
          have Hcn := hide hcn
          have E := hide (Hs3.out hne h2)
          clear hcn h2 hne
          have hB := hb.size
          go_wp2_with (first
            | (go_at_call 152; refine Hin.out.mono ?_; rintro e w2 ⟨rfl, rfl⟩)
            | (go_at_call 127; refine Hcn.out.mono ?_; rintro e w2 ⟨rfl, rfl⟩)
            | (at_builtin; refine wpList_append_own _ rfl (.tmp 29) (.tmp 31) 33 rfl w.heap.size 3 i0 _ 1 8 Tryz.underlying33 hi0 hz0 hz1 hz2 rfl (by omega) _ out.length _ rfl (hown.alloc _) ⟨w1.heap.size, 0, none⟩ 1 1 [.int .i64 y] rfl rfl (one_new _ _ _) (one_one _) (by unfold maxLen; omega) (by omega) (by simp; omega) ?_; intro v2 w2 hown2 hg2 _))
          go_step3
          obtain ⟨e1, e2⟩ := E.out
          have hb2 := (hb.alloc hb.size (.cells #[.int .i64 y] 3)).grown hg2 (by simp; omega) (fun g hg => (hown.lt g hg).1)

          refine ⟨rfl, ⟨m + 1, y, out ++ [y], v2, _, _, _, _, _, _, _, _, _, _, _, _, _, _, _, _, _, _, _, _, _, _, _, _, _, _, _, rfl, e1, ?_, hb2⟩, ?_⟩
          · have := hown2
            rw [List.length_append, List.map_append]
            exact this
          · obtain ⟨A2, c2, rfl, _⟩ := own_form hown2
            show l.length + 1 - (out.length + 1) < l.length + 1 - out.length
            have := Hlen.out
            omega
  · intro hpass
    go_wp2
    go_step3
    rename_i hK
    exact hK _ _ (hpass _ _ ⟨0, i, [], _, _, _, _, _, _, _, _, _, _, _, _, _, _, _, _, _, _, _, _, _, _, _, _, _, _, _, _, rfl, UpAt.start l i, World.ownsRow_nil _ _ _ _, Below.refl _ _⟩)
end
section
open Go.RowKit
theorem rt_ints {w : World} {S : Nat → Prop} {v : Value} {l : List Int} (h : RT w S v (sI l)) (hS : ∀ b, S b → b < w.heap.size) (hl : ∀ x ∈ l, ok64 x) : RI w v l := by
  obtain ⟨A, cap, rfl, hc, hm, _, hA⟩ := h.sl_inv
  refine ⟨A, cap, by simp, by simpa using hc, hm, fun h0 => ?_⟩
  obtain ⟨b, o, rfl, hb, U, hcell, hr, _⟩ := hA (by simpa using h0)
  refine ⟨b, o, rfl, hS b hb, fun i hi => ⟨[.int .i64 l[i]], fun j u hu => ?_, rfl, ?_⟩⟩
  · have h1 : (l.map fun n => [eI n])[i]? = some [eI l[i]] := by simp [hi]
    have h2 := hcell i 0 _ _ h1 rfl
    have h3 := rtc (hr i 0 _ _ h1 rfl)
    cases j with
    | zero =>
      simp at hu
      subst hu
      rw [h3] at h2
      simpa [intR] using h2
    | succ j => simp at hu
  · have := hl _ (List.getElem_mem hi)
    exact wf_i64_mk this.1 this.2
theorem adet_of_list {f : FuncId} {args : List AV} {l : List Int} (he : Enters Tryz.prog f)
    (h : ∀ (S : Nat → Prop) (w : World) (vs : Array Value), (∀ b, S b → b < w.heap.size) → vs.size = args.length → (∀ (j : Nat) (v : Value) (av : AV), vs[j]? = some v → args[j]? = some av → RT w S v av) → Calls Tryz.prog f vs w (ListPost l w)) : ADet Tryz.prog f args (own 3 1 (l.map fun n => [eI n])) :=
  ⟨he, fun S w vs h1 h2 h3 => (h S w vs h1 h2 h3).mono fun e w' ⟨v, h4, h5, h6⟩ => by
    have hget : ∀ id o, (own 3 1 (l.map fun n => [eI n])).tab.get id = some o → id = 0 ∧ o = .row 3 1 (l.map fun n => [eI n]) := fun id o ho => by
      simp only [own, ATab.get_cons] at ho
      split at ho
      · cases ho
        exact ⟨by assumption, rfl⟩
      · cases ho
    refine ⟨v, fun _ => v, _, rfl, own_ok .., h4, ⟨belowX h6, fun id o ho => ?_, fun id id' o o' g h7 h8 _ _ => ?_, fun b hb => hb.elim⟩, .osl _ _ fun sz u hk => ?_⟩
    · obtain ⟨_, rfl⟩ := hget id o ho
      refine ⟨fun row hr => ?_, _, by rw [List.length_map]; exact ownsR_of h5, fun x hx => ?_, fun i j row av ha hb => ?_⟩
      · obtain ⟨n, _, rfl⟩ := List.mem_map.1 hr
        rfl
      · obtain ⟨n, _, rfl⟩ := List.mem_map.1 hx
        rfl
      · rw [List.getElem?_map] at ha
        cases hi : l[i]? with
        | none => simp [hi] at ha
        | some n =>
          simp [hi] at ha
          subst ha
          cases j with
          | zero =>
            simp at hb
            subst hb
            exact ⟨.int .i64 n, by simp [hi], .c _⟩
          | succ j => simp at hb
    · rw [(hget id o h7).1, (hget id' o' h8).1]
    · unfold Kx at hk
      cases ho : (own 3 1 (l.map fun n => [eI n])).tab.get 0 with
      | none => simp [ho] at hk
      | some o => simp [ho] at hk; exact hk.2⟩
theorem two_args {vs : Array Value} (h : vs.size = 2) : ∃ a b, vs = #[a, b] := ⟨vs[0], vs[1], by apply Array.ext (by simpa using h); intro i h1 h2; simp at h2; match i with | 0 => rfl | 1 => rfl⟩
theorem gives_tree {r av : AV} {st : ASt} (h : r.ren [] = av) : aGives ⟨r, [], 0⟩ st av := ⟨[], List.nodup_nil, h, trivial⟩
end
section
open Go.RowKit

theorem arity_cases (op : Int) : arity op = -1 ∨ arity op = 0 ∨ arity op = 1 ∨ arity op = 2 := by
  unfold arity
  split
  · exact .inr (.inl rfl)
  · split
    · exact .inr (.inr (.inl rfl))
    · split
      · exact .inr (.inr (.inr rfl))
      · exact .inl rfl
theorem pushN_iff {d : Nat} {op : Int} {d' : Nat} : pushN d op = some d' ↔ 0 ≤ arity op ∧ arity op ≤ d ∧ (d' : Int) = d + 1 - arity op := by
  unfold pushN
  rcases arity_cases op with h | h | h | h <;> simp only [h]
  · simp
  · simp
    omega
  · by_cases h1 : 1 ≤ d
    · simp [h1]
      omega
    · simp [h1]
      omega
  · by_cases h1 : 2 ≤ d
    · simp [h1]
      omega
    · simp [h1]
      omega
theorem rn_app (a b : List Int) : ∀ d, rowN (a ++ b) d = (rowN a d).bind (rowN b) := by
  induction a with
  | nil => intro d; rfl
  | cons x a ih => intro d; rw [List.cons_append, rowN, rowN]; cases pushN d x <;> simp [ih]
theorem rn_succ (ops : List Int) {i : Nat} (h : i < ops.length) : rowN (ops.take (i + 1)) 0 = (rowN (ops.take i) 0).bind fun d => pushN d ops[i] := by
  rw [List.take_add_one, List.getElem?_eq_getElem h, rn_app]
  congr 1
  funext d
  simp [rowN]
  cases pushN d ops[i] <;> rfl
theorem rn_some {ops : List Int} {i d' : Nat} (h : i < ops.length) (hr : rowN (ops.take (i + 1)) 0 = some d') : ∃ d, rowN (ops.take i) 0 = some d ∧ 0 ≤ arity ops[i] ∧ arity ops[i] ≤ d ∧ (d' : Int) = d + 1 - arity ops[i] := by
  rw [rn_succ ops h] at hr
  cases hd : rowN (ops.take i) 0 with
  | none => simp [hd] at hr
  | some d =>
    simp [hd] at hr
    exact ⟨d, rfl, pushN_iff.1 hr⟩
/-- where the part begins: i items are left, so many are wanted -/
def begI (ops : List Int) : Nat → Int → Int
  | 0, _ => -1
  | i + 1, want => if arity (ops.getD i 0) < 0 then -1 else if want + (arity (ops.getD i 0) - 1) = 0 then (i : Int) else begI ops i (want + (arity (ops.getD i 0) - 1))
theorem getD_of {ops : List Int} {i : Nat} (h : i < ops.length) : ops.getD i 0 = ops[i] := by simp [h]
theorem beg_gen {ops : List Int} {d e : Nat} (hd : 1 ≤ d) : ∀ (i : Nat) (want : Int) (di : Nat), i ≤ ops.length → rowN (ops.take i) 0 = some di → (di : Int) = d - 1 + want → 1 ≤ want → (∀ j, i ≤ j → j ≤ e → ∃ dj, rowN (ops.take j) 0 = some dj ∧ d ≤ dj) →
    ∃ b : Nat, b < i ∧ begI ops i want = b ∧ rowN (ops.take b) 0 = some (d - 1) ∧ ∀ j, b < j → j ≤ e → ∃ dj, rowN (ops.take j) 0 = some dj ∧ d ≤ dj
  | 0, want, di, _, hr, hdi, hw, _ => by
    simp [rowN] at hr
    omega
  | i + 1, want, di, hi, hr, hdi, hw, hj => by
    obtain ⟨d0, h0, h1, h2, h3⟩ := rn_some (by omega) hr
    rw [begI, getD_of (by omega : i < ops.length), if_neg (by omega)]
    by_cases hz : want + (arity ops[i] - 1) = 0
    · rw [if_pos hz]
      refine ⟨i, by omega, rfl, by rw [h0]; congr 1; omega, fun j h4 h5 => hj j (by omega) h5⟩
    · rw [if_neg hz]
      obtain ⟨b, h4, h5, h6, h7⟩ := beg_gen (e := e) hd i (want + (arity ops[i] - 1)) d0 (by omega) h0 (by omega) (by omega) fun j h4 h5 => by
        rcases Nat.lt_or_ge i j with h6 | h6
        · exact hj j (by omega) h5
        · obtain rfl : i = j := by omega
          exact ⟨d0, h0, by omega⟩
      exact ⟨b, by omega, h5, h6, h7⟩
theorem rn_pos {ops : List Int} {i d : Nat} (h : i < ops.length) (hr : rowN (ops.take (i + 1)) 0 = some d) : 1 ≤ d := by
  obtain ⟨d0, _, h1, h2, h3⟩ := rn_some h hr
  omega
theorem beg_at {ops : List Int} {e d : Nat} (he : e < ops.length) (hr : rowN (ops.take (e + 1)) 0 = some d) :
    ∃ b : Nat, b ≤ e ∧ begI ops (e + 1) 1 = b ∧ rowN (ops.take b) 0 = some (d - 1) ∧ ∀ j, b < j → j ≤ e + 1 → ∃ dj, rowN (ops.take j) 0 = some dj ∧ d ≤ dj := by
  have hd := rn_pos he hr
  obtain ⟨b, h1, h2⟩ := beg_gen (e := e + 1) hd (e + 1) 1 d (by omega) hr (by omega) (by omega) fun j h1 h2 => by
    obtain rfl : j = e + 1 := by omega
    exact ⟨d, hr, Nat.le_refl _⟩
  exact ⟨b, by omega, h2⟩
theorem beg_back (ops : List Int) : ∀ (i : Nat) (want : Int), i ≤ ops.length → 1 ≤ want → begI ops i want = 0 → rowN (ops.take i) 0 = some want.toNat
  | 0, want, _, _, h => by simp [begI] at h
  | i + 1, want, hi, hw, h => by
    have hlt : i < ops.length := by omega
    rw [begI, getD_of hlt] at h
    split at h
    · omega
    · rename_i h1
      rw [rn_succ ops hlt]
      split at h
      · rename_i h2
        obtain rfl : i = 0 := by omega
        have h3 : arity ops[0] = 0 ∧ want = 1 := by
          rcases arity_cases ops[0] with h | h | h | h <;> omega
        rw [h3.2]
        simp only [List.take_zero, rowN, Option.bind_some]
        rw [pushN_iff]
        omega
      · rename_i h2
        rw [beg_back ops i _ (by omega) (by omega) h, Option.bind_some, pushN_iff]
        omega
theorem beg_zero {ops : List Int} (h0 : 0 < ops.length) : begI ops ops.length 1 = 0 ↔ rowN ops 0 = some 1 := by
  constructor
  · intro h
    have := beg_back ops ops.length 1 (Nat.le_refl _) (by omega) h
    rwa [List.take_length] at this
  · intro h
    have e1 : ops.length - 1 + 1 = ops.length := by omega
    obtain ⟨b, h1, h2, h3, h4⟩ := beg_at (ops := ops) (e := ops.length - 1) (d := 1) (by omega) (by rw [e1, List.take_length]; exact h)
    rw [e1] at h2
    rw [h2]
    cases b with
    | zero => rfl
    | succ b =>
      have := rn_pos (by omega) h3
      omega

/-! ### the row of truths -/
section
variable {cm : Inst → Option Int} {o d : Int}
theorem rg_app (a b : List Inst) : ∀ r, runG cm o d (a ++ b) r = (runG cm o d a r).bind (runG cm o d b) := by
  induction a with
  | nil => intro r; rfl
  | cons x a ih => intro r; rw [List.cons_append, runG, runG]; cases stepG cm o d x r <;> simp [ih]
theorem rg_succ (l : List Inst) {i : Nat} (h : i < l.length) : runG cm o d (l.take (i + 1)) [] = (runG cm o d (l.take i) []).bind (stepG cm o d l[i]) := by
  rw [List.take_add_one, List.getElem?_eq_getElem h, rg_app]
  congr 1
  funext r
  simp [runG]
  cases stepG cm o d l[i] r <;> rfl
theorem stepG_some {x : Inst} {r r' : List Bool} (h : stepG cm o d x r = some r') : ∃ k : Nat, arity x.op = k ∧ k ≤ r.length ∧ ∃ v, r' = v :: r.drop k := by
  unfold stepG at h
  split at h
  · rename_i h1
    cases h
    exact ⟨0, by unfold arity; rw [if_pos (by omega)]; rfl, by omega, _, rfl⟩
  · split at h
    · rename_i h1
      split at h
      · cases h
        exact ⟨0, by unfold arity; rw [if_pos (by omega)]; rfl, by omega, _, rfl⟩
      · cases h
    · split at h
      · rename_i h1
        cases h
        exact ⟨0, by unfold arity; rw [if_pos (by omega)]; rfl, by omega, _, rfl⟩
      · split at h
        · rename_i h1
          cases h
          exact ⟨0, by unfold arity; rw [if_pos (by omega)]; rfl, by omega, _, rfl⟩
        · split at h
          · rename_i h1
            split at h
            · cases h
              exact ⟨1, by unfold arity; rw [if_neg (by omega), if_pos (by omega)]; rfl, by simp, _, rfl⟩
            · cases h
          · split at h
            · rename_i h1
              split at h
              · cases h
                exact ⟨2, by unfold arity; rw [if_neg (by omega), if_neg (by omega), if_pos (by omega)]; rfl, by simp, _, rfl⟩
              · cases h
            · cases h
theorem rg_some {l : List Inst} {i : Nat} {r' : List Bool} (h : i < l.length) (hr : runG cm o d (l.take (i + 1)) [] = some r') : ∃ r, runG cm o d (l.take i) [] = some r ∧ stepG cm o d l[i] r = some r' := by
  rw [rg_succ l h] at hr
  cases hd : runG cm o d (l.take i) [] with
  | none => simp [hd] at hr
  | some r =>
    simp [hd] at hr
    exact ⟨r, rfl, hr⟩
theorem rg_row {l : List Inst} : ∀ {i : Nat} {r : List Bool}, i ≤ l.length → runG cm o d (l.take i) [] = some r → rowN ((l.map Inst.op).take i) 0 = some r.length
  | 0, r, _, h => by
    simp [runG] at h
    subst h
    simp [rowN]
  | i + 1, r, hi, h => by
    obtain ⟨r0, h1, h2⟩ := rg_some (by omega) h
    have h3 := rg_row (by omega) h1
    obtain ⟨k, h4, h5, v, rfl⟩ := stepG_some h2
    rw [rn_succ _ (by simp; omega), h3, Option.bind_some, pushN_iff]
    simp [h4]
    omega
theorem rg_begin {l : List Inst} {e : Nat} {v : Bool} {r : List Bool} (he : e < l.length) (h : runG cm o d (l.take (e + 1)) [] = some (v :: r)) :
    ∃ b : Nat, b ≤ e ∧ begI (l.map Inst.op) (e + 1) 1 = b ∧ runG cm o d (l.take b) [] = some r := by
  have hrow := rg_row (by omega) h
  obtain ⟨b, h1, h2, h3, h4⟩ := beg_at (by simpa using he) hrow
  refine ⟨b, h1, h2, ?_⟩
  have down : ∀ k j, j + k = e + 1 → ∃ q, runG cm o d (l.take j) [] = some q := by
    intro k
    induction k with
    | zero =>
      intro j hj
      obtain rfl : j = e + 1 := by omega
      exact ⟨_, h⟩
    | succ k ih =>
      intro j hj
      obtain ⟨q, hq⟩ := ih (j + 1) (by omega)
      obtain ⟨q0, hq0, _⟩ := rg_some (by omega) hq
      exact ⟨q0, hq0⟩
  obtain ⟨q, hq⟩ := down (e + 1 - b) b (by omega)
  have hql := rg_row (by omega) hq
  rw [h3] at hql
  have hql : r.length = q.length := by simpa using hql
  have up : ∀ k, b + k ≤ e + 1 → ∃ t, runG cm o d (l.take (b + k)) [] = some (t ++ q) := by
    intro k
    induction k with
    | zero => exact fun _ => ⟨[], hq⟩
    | succ k ih =>
      intro hk
      obtain ⟨t, ht⟩ := ih (by omega)
      obtain ⟨r1, hr1⟩ := down (e + 1 - (b + k + 1)) (b + k + 1) (by omega)
      obtain ⟨r0, h5, h6⟩ := rg_some (by omega) hr1
      rw [ht] at h5
      cases h5
      obtain ⟨c, h7, h8, v', rfl⟩ := stepG_some h6
      obtain ⟨dj, h9, h10⟩ := h4 (b + k + 1) (by omega) (by omega)
      have h11 := rg_row (by omega) hr1
      rw [h9] at h11
      have h11 : dj = (t ++ q).length - c + 1 := by simpa using h11
      rw [List.length_append] at h11 h8
      simp only [List.length_cons] at h10
      refine ⟨v' :: t.drop c, ?_⟩
      rw [show b + (k + 1) = b + k + 1 by omega, hr1, List.drop_append_of_le_length (by omega)]
      rfl
  obtain ⟨t, ht⟩ := up (e + 1 - b) (by omega)
  rw [show b + (e + 1 - b) = e + 1 by omega, h] at ht
  have ht := Option.some.inj ht
  have htl : t.length = 1 := by
    have := congrArg List.length ht
    simp at this
    omega
  obtain ⟨v', rfl⟩ : ∃ v', t = [v'] := by
    match t, htl with
    | [v'], _ => exact ⟨v', rfl⟩
  rw [hq]
  simp at ht
  rw [ht.2]
end
/-- an instruction that may be asked -/
def askOk (vals : List Int) (attrs : Bool) (x : Inst) : Bool :=
  !(decide (18 < x.op) || (decide (10 < x.op) && decide (x.op < 15)) || (attrs && decide (3 ≤ x.op) && decide (x.op ≤ 8) && (!(decide (-1 ≤ x.la) && decide (x.la < vals.length)) || !(decide (-1 ≤ x.ra) && decide (x.ra < vals.length)))))
theorem valO_iff (vals : List Int) (a n : Int) : (valO vals a n).isSome = (decide (-1 ≤ a) && decide (a < vals.length)) := by
  unfold valO
  by_cases h1 : a = -1
  · subst h1
    simp
    omega
  · rw [if_neg h1]
    by_cases h2 : a < 0
    · rw [if_pos h2]
      simp
      omega
    · rw [if_neg h2]
      rw [Bool.eq_iff_iff]
      simp
      omega
theorem cmS_some (vals : List Int) (x : Inst) : (cmS vals x).isSome = ((decide (-1 ≤ x.la) && decide (x.la < vals.length)) && (decide (-1 ≤ x.ra) && decide (x.ra < vals.length))) := by
  rw [← valO_iff vals x.la x.ln, ← valO_iff vals x.ra x.rn]
  unfold cmS
  cases valO vals x.la x.ln <;> cases valO vals x.ra x.rn <;> rfl
theorem step_ok {s : St} {x : Inst} {r : List Bool} (h : askOk s.vals true x = true) (h0 : 0 ≤ arity x.op) (h1 : arity x.op ≤ r.length) : ∃ r', stepG (cmS s.vals) s.opn s.don x r = some r' := by
  have hc := cmS_some s.vals x
  unfold askOk at h
  simp only [Bool.not_eq_true', Bool.or_eq_false_iff, Bool.and_eq_false_iff, decide_eq_false_iff_not, Bool.true_and, Bool.not_eq_false'] at h
  unfold stepG
  split
  · exact ⟨_, rfl⟩
  · split
    · rename_i h2 h3
      have : (cmS s.vals x).isSome = true := by
        rw [hc, Bool.and_eq_true]
        rcases h.2 with h4 | h4
        · rcases h4 with h4 | h4 <;> simp at h4 <;> omega
        · exact h4
      obtain ⟨c, hc⟩ := Option.isSome_iff_exists.1 this
      rw [hc]
      exact ⟨_, rfl⟩
    · split
      · exact ⟨_, rfl⟩
      · split
        · exact ⟨_, rfl⟩
        · split
          · rename_i h6
            have : arity x.op = 1 := by unfold arity; rw [if_neg (by omega), if_pos (by omega)]
            cases r with
            | nil => simp at h1; omega
            | cons a r => exact ⟨_, rfl⟩
          · split
            · rename_i h6
              have : arity x.op = 2 := by unfold arity; rw [if_neg (by omega), if_neg (by omega), if_pos (by omega)]
              match r with
              | [] => simp at h1; omega
              | [a] => simp at h1; omega
              | b :: a :: r => exact ⟨_, rfl⟩
            · rename_i h2 h3 h4 h5 h6 h7
              exfalso
              have h8 := h.1
              unfold arity at h0
              split at h0
              · rename_i h9
                rcases h8 with ⟨h10, h11⟩
                rcases h11 with h11 | h11 <;> omega
              · split at h0
                · omega
                · split at h0 <;> omega
theorem run_ok {s : St} {l : List Inst} (hl : ∀ x ∈ l, askOk s.vals true x = true) : ∀ (i : Nat) (d : Nat), i ≤ l.length → rowN ((l.map Inst.op).take i) 0 = some d → ∃ r, runG (cmS s.vals) s.opn s.don (l.take i) [] = some r ∧ r.length = d
  | 0, d, _, h => by
    simp [rowN] at h
    exact ⟨[], by simp [runG], h⟩
  | i + 1, d, hi, h => by
    have hlt : i < l.length := by omega
    obtain ⟨d0, h0, h1, h2, h3⟩ := rn_some (by simpa using hlt) h
    obtain ⟨r, h4, h5⟩ := run_ok hl i d0 (by omega) h0
    simp only [List.getElem_map] at h1 h2 h3
    obtain ⟨r', h6⟩ := step_ok (s := s) (r := r) (hl l[i] (List.getElem_mem hlt)) h1 (by omega)
    have h7 : runG (cmS s.vals) s.opn s.don (l.take (i + 1)) [] = some r' := by rw [rg_succ l hlt, h4, Option.bind_some, h6]
    have h8 := rg_row (by omega) h7
    rw [h] at h8
    exact ⟨r', h7, (Option.some.inj h8).symm⟩
theorem run_all_ok {s : St} {l : List Inst} {r : List Bool} (h : runG (cmS s.vals) s.opn s.don l [] = some r) : ∀ x ∈ l, askOk s.vals true x = true := by
  intro x hx
  obtain ⟨i, hi, rfl⟩ := List.getElem_of_mem hx
  have down : ∀ k j, j + k = l.length → ∃ q, runG (cmS s.vals) s.opn s.don (l.take j) [] = some q := by
    intro k
    induction k with
    | zero =>
      intro j hj
      obtain rfl : j = l.length := by omega
      exact ⟨r, by rw [List.take_length]; exact h⟩
    | succ k ih =>
      intro j hj
      obtain ⟨q, hq⟩ := ih (j + 1) (by omega)
      obtain ⟨q0, hq0, _⟩ := rg_some (by omega) hq
      exact ⟨q0, hq0⟩
  obtain ⟨q, hq⟩ := down (l.length - (i + 1)) (i + 1) (by omega)
  obtain ⟨q0, _, h2⟩ := rg_some hi hq
  have hc := cmS_some s.vals l[i]
  unfold askOk
  simp only [Bool.not_eq_true', Bool.or_eq_false_iff, Bool.and_eq_false_iff, decide_eq_false_iff_not, Bool.true_and, Bool.not_eq_false']
  unfold stepG at h2
  split at h2
  · rename_i h3
    exact ⟨⟨by omega, by omega⟩, .inl (by omega)⟩
  · split at h2
    · rename_i h3 h4
      split at h2
      · rename_i c hcm
        rw [hcm] at hc
        simp only [Option.isSome_some] at hc
        have hc := hc.symm
        rw [Bool.and_eq_true] at hc
        exact ⟨⟨by omega, by omega⟩, .inr hc⟩
      · cases h2
    · split at h2
      · exact ⟨⟨by omega, by omega⟩, .inl (by omega)⟩
      · split at h2
        · exact ⟨⟨by omega, by omega⟩, .inl (by omega)⟩
        · split at h2
          · exact ⟨⟨by omega, by omega⟩, .inl (by omega)⟩
          · split at h2
            · exact ⟨⟨by omega, by omega⟩, .inl (by omega)⟩
            · cases h2
theorem holdsO_some {l : List Inst} {s : St} (h1 : checkE (l.map Inst.op) = 0) (h2 : ∀ x ∈ l, askOk s.vals true x = true) : ∃ b, runG (cmS s.vals) s.opn s.don l [] = some [b] ∧ holdsO l s = some b := by
  have h3 : rowN (l.map Inst.op) 0 = some 1 := by
    unfold checkE at h1
    split at h1
    · cases h1
    · split at h1
      · cases h1
      · split at h1
        · assumption
        · cases h1
  obtain ⟨r, h4, h5⟩ := run_ok h2 l.length 1 (Nat.le_refl _) (by rw [show l.length = (l.map Inst.op).length by simp, List.take_length]; exact h3)
  rw [List.take_length] at h4
  match r, h5 with
  | [b], _ =>
    refine ⟨b, h4, ?_⟩
    unfold holdsO holdsG
    rw [if_neg (by simp [h1]), h4]
theorem holdsO_none {l : List Inst} {s : St} (h : ¬ (checkE (l.map Inst.op) = 0 ∧ ∀ x ∈ l, askOk s.vals true x = true)) : holdsO l s = none := by
  unfold holdsO holdsG
  split
  · rfl
  · rename_i h1
    cases hr : runG (cmS s.vals) s.opn s.don l [] with
    | none => rfl
    | some r => exact absurd ⟨by simpa using h1, run_all_ok hr⟩ h
end
section
open Go.RowKit
theorem two_no : ((2 : Int) = 0) = False := by simp
set_option maxRecDepth 100000 in
set_option maxHeartbeats 4000000 in
theorem hasR_A (s i : Int) (hs : ok64 s) : ADet Tryz.prog 69 [eI s, eI i] (val (.bool (hasB s i))) := by
  refine adet_of_code mixedT Tryz.func69 rfl (by decide) Tryz.ntmps69 Tryz.results69 rfl (val_ok _) ?_
  (repeat' (first | simp (maxSteps := 5000000) (implicitDefEqProofs := false) only [ruA, ruB, aEv, aBin, bin2, ASt.get, aget, ASt.put, envOf, aResL, aOne, ↓reduceIte, Nat.reduceLT, Nat.reduceEqDiff, eq_self] | (with_reducible refine aIf_split (fun _ => ?_) (fun _ => ?_)) | (with_reducible refine aSel_split (fun _ => ?_) (fun _ => ?_)) | (with_reducible refine aGd_split (fun _ => ?_) (fun _ => ?_))))
  · rename_i h
    simp at h
    simp [hasB]
    omega
  · rename_i h1 h2
    simp at h1 h2
    simp [hasB]
    omega
  · rename_i h1 h2
    simp at h1 h2
    obtain ⟨q, rfl⟩ : ∃ q : Nat, i = (q : Int) := ⟨i.toNat, by omega⟩
    have e0 : s / 2 ^ 0 = s := by simp
    refine aLoop_of (fun st => ∃ k : Nat, k ≤ q ∧ st = ⟨31, [(0, eI (s / 2 ^ k)), (1, eI (q : Int)), (5, eI (k : Int))], [], 0⟩) (fun st => q - slotN st 5) ⟨_, (weak_cut1 (by (first | ((simp only [envIn, tabIn, envLt, tabLt, AV.lt, ruW, ASt.get, aget, ↓reduceIte, reduceCtorEq, Nat.reduceLT, Nat.reduceEqDiff, eq_self, e0]) <;> (repeat' apply And.intro) <;> first | (rw [wrapK (by omega)]; done) | (simp; done) | omega) | fail))), 0, Nat.zero_le _, rfl⟩ ?_
    rintro _ ⟨k, hk, rfl⟩
    have hp : (1 : Int) ≤ 2 ^ k := Int.pow_pos (by omega)
    have hd0 : -9223372036854775808 ≤ s / 2 ^ k := by
      refine Int.le_ediv_of_mul_le (by omega) ?_
      have := hs.1
      generalize (2 : Int) ^ k = p at *
      omega
    have hd1 : s / 2 ^ k ≤ 9223372036854775807 := by
      by_cases h : s < 0
      · have := Int.ediv_neg_of_neg_of_pos h (by omega : (0 : Int) < 2 ^ k)
        omega
      · exact Int.le_trans (Int.ediv_le_self _ (by omega)) hs.2
    have ed : s / 2 ^ (k + 1) = s / 2 ^ k / 2 := by
      rw [Int.pow_succ, Int.ediv_ediv_of_nonneg (Int.le_of_lt (Int.pow_pos (by omega)))]
    generalize hx : s / 2 ^ k = x at *
    by_cases hxn : x % 2 = 1 ∧ x < 0
    · have et : x.tmod 2 = -1 := by
        have h3 : x.tmod 2 = -((-x) % 2) := by
          rw [← Int.tmod_eq_emod_of_nonneg (by omega), Int.neg_tmod]
          omega
        omega
      have en : decide ((-1 : Int) < 0) = true := by decide
      have em : IntKind.i64.wrap (0 - (-1)) = 1 := by decide
      have ew : IntKind.i64.wrap (x - 1) = x - 1 := wrap_in (by omega) (by omega)
      have eq : (x - 1).tdiv 2 = x / 2 := by
        have h3 : (2 : Int) ∣ x - 1 := ⟨x / 2, by omega⟩
        rw [Int.tdiv_eq_ediv_of_dvd h3]
        omega
      by_cases hlt : k < q
      · (repeat' (first | simp (maxSteps := 5000000) (implicitDefEqProofs := false) only [ruA, ruB, aEv, aBin, bin2, aUn, un1, ASt.get, aget, ASt.put, ↓reduceIte, reduceCtorEq, Nat.reduceLT, Nat.reduceEqDiff, eq_self, hlt, two_no, et, en, em, ew, eq] | (with_reducible refine aIf_split (fun _ => ?_) (fun _ => ?_)) | (with_reducible refine aSel_split (fun _ => ?_) (fun _ => ?_)) | (with_reducible refine aGd_split (fun _ => ?_) (fun _ => ?_))))
        have ew2 : IntKind.i64.wrap (x / 2) = x / 2 := wrap_in (by omega) (by omega)
        exact roundI (weak_cut1 (by (first | ((simp only [envIn, tabIn, envLt, tabLt, AV.lt, ruW, ASt.get, aget, ↓reduceIte, reduceCtorEq, Nat.reduceLT, Nat.reduceEqDiff, eq_self, ed, ew2]) <;> (repeat' apply And.intro) <;> first | (rw [wrapK (by omega)]; done) | (simp; done) | omega) | fail))) ⟨k + 1, by omega, rfl⟩ (by simp only [slotN, ruW, ASt.get, aget, ↓reduceIte, Nat.reduceLT, Nat.reduceEqDiff, eq_self]; omega)
      · obtain rfl : k = q := by omega
        (repeat' (first | simp (maxSteps := 5000000) (implicitDefEqProofs := false) only [ruA, ruB, aEv, aBin, bin2, ASt.get, aget, ASt.put, aResL, aOne, ↓reduceIte, reduceCtorEq, Nat.reduceLT, Nat.reduceEqDiff, eq_self, hlt, two_no, et] | (with_reducible refine aIf_split (fun _ => ?_) (fun _ => ?_)) | (with_reducible refine aSel_split (fun _ => ?_) (fun _ => ?_)) | (with_reducible refine aGd_split (fun _ => ?_) (fun _ => ?_))))
        have hk31 : (k : Int) < 31 := by omega
        simp [hasB, hx, hk31, hxn.1]
    have et : x.tmod 2 = x % 2 := by
      by_cases h : x < 0
      · have h0 : x % 2 = 0 := by omega
        rw [h0]
        exact Int.tmod_eq_zero_of_dvd ⟨x / 2, by omega⟩
      · exact Int.tmod_eq_emod_of_nonneg (by omega)
    have en : decide (x % 2 < 0) = false := by simp; omega
    have ew : IntKind.i64.wrap (x - x % 2) = x - x % 2 := wrap_in (by omega) (by omega)
    have eq : (x - x % 2).tdiv 2 = x / 2 := by
      have h3 : (2 : Int) ∣ x - x % 2 := ⟨x / 2, by omega⟩
      rw [Int.tdiv_eq_ediv_of_dvd h3]
      omega
    by_cases hlt : k < q
    · (repeat' (first | simp (maxSteps := 5000000) (implicitDefEqProofs := false) only [ruA, ruB, aEv, aBin, bin2, ASt.get, aget, ASt.put, ↓reduceIte, reduceCtorEq, Nat.reduceLT, Nat.reduceEqDiff, eq_self, hlt, two_no, et, en, ew, eq] | (with_reducible refine aIf_split (fun _ => ?_) (fun _ => ?_)) | (with_reducible refine aSel_split (fun _ => ?_) (fun _ => ?_)) | (with_reducible refine aGd_split (fun _ => ?_) (fun _ => ?_))))
      have ew2 : IntKind.i64.wrap (x / 2) = x / 2 := wrap_in (by omega) (by omega)
      exact roundI (weak_cut1 (by (first | ((simp only [envIn, tabIn, envLt, tabLt, AV.lt, ruW, ASt.get, aget, ↓reduceIte, reduceCtorEq, Nat.reduceLT, Nat.reduceEqDiff, eq_self, ed, ew2]) <;> (repeat' apply And.intro) <;> first | (rw [wrapK (by omega)]; done) | (simp; done) | omega) | fail))) ⟨k + 1, by omega, rfl⟩ (by simp only [slotN, ruW, ASt.get, aget, ↓reduceIte, Nat.reduceLT, Nat.reduceEqDiff, eq_self]; omega)
    · obtain rfl : k = q := by omega
      (repeat' (first | simp (maxSteps := 5000000) (implicitDefEqProofs := false) only [ruA, ruB, aEv, aBin, bin2, ASt.get, aget, ASt.put, aResL, aOne, ↓reduceIte, reduceCtorEq, Nat.reduceLT, Nat.reduceEqDiff, eq_self, hlt, two_no, et] | (with_reducible refine aIf_split (fun _ => ?_) (fun _ => ?_)) | (with_reducible refine aSel_split (fun _ => ?_) (fun _ => ?_)) | (with_reducible refine aGd_split (fun _ => ?_) (fun _ => ?_))))
      have hk31 : (k : Int) < 31 := by omega
      simp [hasB, hx, hk31]
      rcases Int.emod_two_eq x with h | h <;> simp [h]
/-- the truths as a number -/
def bitsN (f : Nat → Bool) : Nat → Nat
  | 0 => 0
  | k + 1 => bitsN f k + if f k = true then 2 ^ k else 0
theorem bitsN_lt (f : Nat → Bool) : ∀ k, bitsN f k < 2 ^ k
  | 0 => by simp [bitsN]
  | k + 1 => by
    have := bitsN_lt f k
    unfold bitsN
    rw [Nat.pow_succ]
    split <;> omega
theorem bitsN_bit (f : Nat → Bool) : ∀ k j, (bitsN f k).testBit j = (decide (j < k) && f j)
  | 0, j => by simp [bitsN]
  | k + 1, j => by
    have hl := bitsN_lt f k
    unfold bitsN
    split
    · rename_i hf
      rw [Nat.add_comm]
      rcases Nat.lt_trichotomy j k with h | h | h
      · rw [Nat.testBit_two_pow_add_gt h, bitsN_bit f k j]
        simp [h, show j < k + 1 by omega]
      · subst h
        rw [Nat.testBit_two_pow_add_eq, bitsN_bit f j j]
        simp [hf]
      · rw [Nat.testBit_lt_two_pow, Eq.comm]
        · simp
          omega
        · have : 2 ^ (k + 1) ≤ 2 ^ j := Nat.pow_le_pow_right (by omega) h
          rw [Nat.pow_succ] at this
          omega
    · rename_i hf
      rw [Nat.add_zero, bitsN_bit f k j]
      rcases Nat.lt_trichotomy j k with h | h | h
      · simp [h, show j < k + 1 by omega]
      · subst h
        simp [hf]
      · simp [show ¬ j < k by omega, show ¬ j < k + 1 by omega]
theorem bitsN_has (f : Nat → Bool) (j : Nat) (hj : j < 31) : hasB (bitsN f 31 : Nat) (j : Int) = f j := by
  rw [hasB_low _ j hj, low_of _ (bitsN_lt f 31), bitsN_bit]
  simp [hj]
/-- sets of the lowest 31 bits are the same, if the same is in them -/
theorem set_ext {a b : Int} (ha : 0 ≤ a ∧ a < 2147483648) (hb : 0 ≤ b ∧ b < 2147483648) (h : ∀ j : Nat, j < 31 → hasB a j = hasB b j) : a = b := by
  have e1 : ((low a : Nat) : Int) = a := by unfold low; omega
  have e2 : ((low b : Nat) : Int) = b := by unfold low; omega
  rw [← e1, ← e2]
  congr 1
  apply Nat.eq_of_testBit_eq
  intro j
  by_cases hj : j < 31
  · rw [← hasB_low a j hj, ← hasB_low b j hj]
    exact h j hj
  · rw [Nat.testBit_lt_two_pow (Nat.lt_of_lt_of_le (low_lt a) (Nat.pow_le_pow_right (by omega) (by omega))), Nat.testBit_lt_two_pow (Nat.lt_of_lt_of_le (low_lt b) (Nat.pow_le_pow_right (by omega) (by omega)))]
abbrev sB (l : List Bool) : AV := .sl 1 (l.map fun b => [eB b])
def sumF (l : List Bool) (k : Nat) : Int := (bitsN (fun i => l.getD i false) k : Nat)
def powF (k : Nat) : Int := (2 ^ k : Nat)
theorem powF_succ {k : Nat} (hk : k ≤ 31) : IntKind.i64.wrap (powF k * 2) = powF (k + 1) := by
  have h2 : 2 ^ k ≤ 2 ^ 31 := Nat.pow_le_pow_right (by omega) hk
  unfold powF
  rw [Nat.pow_succ]
  generalize 2 ^ k = p at *
  rw [wrap_in (by omega) (by omega)]
  simp
theorem sumF_yes {l : List Bool} {k : Nat} (hk : k ≤ 31) (h : l.getD k false = true) : IntKind.i64.wrap (sumF l k + powF k) = sumF l (k + 1) := by
  have h2 : 2 ^ k ≤ 2 ^ 31 := Nat.pow_le_pow_right (by omega) hk
  have h1 := bitsN_lt (fun i => l.getD i false) k
  unfold sumF powF
  rw [bitsN, if_pos h]
  generalize bitsN (fun i => l.getD i false) k = b at *
  generalize 2 ^ k = p at *
  rw [wrap_in (by omega) (by omega)]
  simp
theorem sumF_no {l : List Bool} {k : Nat} (h : l.getD k false = false) : sumF l k = sumF l (k + 1) := by
  unfold sumF
  rw [bitsN, if_neg (by rw [h]; simp)]
  rfl
set_option maxRecDepth 100000 in
theorem sum_A (l : List Bool) (hl : l.length ≤ 31) : ADet Tryz.prog 87 [sB l] (val (.int .i64 (sumF l l.length))) := by
  refine adet_of_code mixedT Tryz.func87 rfl (by decide) Tryz.ntmps87 Tryz.results87 rfl (val_ok _) ?_
  (repeat' (first | simp (maxSteps := 5000000) (implicitDefEqProofs := false) only [ruA, aEv, ASt.put, envOf] | (with_reducible refine aIf_split (fun _ => ?_) (fun _ => ?_)) | (with_reducible refine aSel_split (fun _ => ?_) (fun _ => ?_)) | (with_reducible refine aGd_split (fun _ => ?_) (fun _ => ?_))))
  have e0 : sumF l 0 = 0 := rfl
  have e1 : powF 0 = 1 := rfl
  refine aLoop_of (fun st => ∃ k : Nat, k ≤ l.length ∧ st = ⟨22, [(0, sB l), (3, eI (sumF l k)), (4, eI (powF k)), (5, eI (k : Int))], [], 0⟩) (fun st => l.length - slotN st 5) ⟨_, (weak_cut1 (by (first | ((simp only [envIn, tabIn, envLt, tabLt, AV.lt, ruW, ASt.get, aget, ↓reduceIte, reduceCtorEq, Nat.reduceLT, Nat.reduceEqDiff, eq_self, e0, e1]) <;> (repeat' apply And.intro) <;> first | (rw [wrapK (by omega)]; done) | (simp; done) | omega) | fail))), 0, Nat.zero_le _, rfl⟩ ?_
  rintro _ ⟨k, hk, rfl⟩
  by_cases hlt : k < l.length
  · have ep := powF_succ (k := k) (by omega)
    have eg : l.getD k false = l[k] := by simp [hlt]
    (repeat' (first | simp (maxSteps := 5000000) (implicitDefEqProofs := false) only [ruA, ruB, aEv, aTake, aLoad, aIndex, aLen, aBin, bin2, ASt.get, aget, ASt.put, ↓reduceIte, reduceCtorEq, Nat.reduceLT, Nat.reduceEqDiff, eq_self, ne_eq, tyE_108, tyA_4, tyS_4, row_at, hlt] | (with_reducible refine aIf_split (fun _ => ?_) (fun _ => ?_)) | (with_reducible refine aSel_split (fun _ => ?_) (fun _ => ?_)) | (with_reducible refine aGd_split (fun _ => ?_) (fun _ => ?_))))
    · rename_i hb
      have ew := sumF_yes (l := l) (k := k) (by omega) (by rw [eg]; exact hb)
      exact roundI (weak_cut1 (by (first | ((simp only [envIn, tabIn, envLt, tabLt, AV.lt, ruW, ASt.get, aget, ↓reduceIte, reduceCtorEq, Nat.reduceLT, Nat.reduceEqDiff, eq_self, ew, ep]) <;> (repeat' apply And.intro) <;> first | (rw [wrapK (by omega)]; done) | (simp; done) | omega) | fail))) ⟨k + 1, by omega, rfl⟩ (by simp only [slotN, ruW, ASt.get, aget, ↓reduceIte, Nat.reduceLT, Nat.reduceEqDiff, eq_self]; omega)
    · rename_i hb
      have ew := sumF_no (l := l) (k := k) (by rw [eg]; exact hb)
      rw [ew]
      exact roundI (weak_cut1 (by (first | ((simp only [envIn, tabIn, envLt, tabLt, AV.lt, ruW, ASt.get, aget, ↓reduceIte, reduceCtorEq, Nat.reduceLT, Nat.reduceEqDiff, eq_self, ep]) <;> (repeat' apply And.intro) <;> first | (rw [wrapK (by omega)]; done) | (simp; done) | omega) | fail))) ⟨k + 1, by omega, rfl⟩ (by simp only [slotN, ruW, ASt.get, aget, ↓reduceIte, Nat.reduceLT, Nat.reduceEqDiff, eq_self]; omega)
  · obtain rfl : k = l.length := by omega
    (repeat' (first | simp (maxSteps := 5000000) (implicitDefEqProofs := false) only [ruA, ruB, aEv, aLen, aBin, bin2, ASt.get, aget, ASt.put, aResL, aOne, ↓reduceIte, reduceCtorEq, Nat.reduceLT, Nat.reduceEqDiff, eq_self, ne_eq, tyE_108, hlt] | (with_reducible refine aIf_split (fun _ => ?_) (fun _ => ?_)) | (with_reducible refine aSel_split (fun _ => ?_) (fun _ => ?_)) | (with_reducible refine aGd_split (fun _ => ?_) (fun _ => ?_))))
def inL (s : Int) : List Bool := (List.range 31).map fun (i : Nat) => hasB s (i : Int)
set_option maxRecDepth 100000 in
theorem inR_A (s : Int) (hs : ok64 s) : ADet Tryz.prog 86 [eI s] (own 4 1 ((inL s).map fun b => [eB b])) := by
  refine adet_of_code mixedT Tryz.func86 rfl (by decide) Tryz.ntmps86 Tryz.results86 rfl (own_ok _ _ _) ?_
  (repeat' (first | simp (maxSteps := 5000000) (implicitDefEqProofs := false) only [ruA, aEv, ASt.put, envOf] | (with_reducible refine aIf_split (fun _ => ?_) (fun _ => ?_)) | (with_reducible refine aSel_split (fun _ => ?_) (fun _ => ?_)) | (with_reducible refine aGd_split (fun _ => ?_) (fun _ => ?_))))
  have hil : (inL s).length = 31 := by simp [inL]
  refine aLoop_of (fun st => ∃ k : Nat, k ≤ 31 ∧ st = ⟨16, [(0, eI s), (3, .osl 0), (4, eI (k : Int))], [(0, some (.row 4 1 (((inL s).take k).map fun b => [eB b])))], 1⟩) (fun st => 31 - slotN st 4) ⟨_, ((weak_nil 3 4 1 (by simp only [ASt.get, aget, ↓reduceIte, Nat.reduceLT, Nat.reduceEqDiff, eq_self])).trans (weak_ren1 [0] ⟨(by decide), (by (first | ((simp only [envInR, tabInR, envLt, tabLt, AObj.lt, AV.lt, AV.ren, AObj.ren, List.getD_cons_zero, List.length_cons, List.length_nil, ruW, ASt.get, aget, ↓reduceIte, reduceCtorEq, Nat.reduceLT, Nat.reduceAdd, eq_self, List.take_zero]) <;> (repeat' apply And.intro) <;> first | (rw [wrapK (by omega)]; done) | (simp; done) | omega) | fail))⟩)), 0, Nat.zero_le _, rfl⟩ ?_
  rintro _ ⟨k, hk, rfl⟩
  by_cases hlt : k < 31
  · have et : ((inL s).take (k + 1)).map (fun b => [eB b]) = ((inL s).take k).map (fun b => [eB b]) ++ [[eB (hasB s (k : Int))]] := by
      rw [take_snoc (fun b => [eB b]) (inL s) (show k < (inL s).length by omega)]
      simp [inL]
    have hkl : ((inL s).take k).length = k := by rw [List.length_take]; omega
    have e1 : decide ((k : Int) < 31) = true := by simp; omega
    (repeat' (first | simp (maxSteps := 5000000) (implicitDefEqProofs := false) only [ruA, ruB, aEv, aBin, bin2, ASt.get, aget, ASt.put, ↓reduceIte, reduceCtorEq, Nat.reduceLT, Nat.reduceEqDiff, eq_self, e1] | (with_reducible refine aIf_split (fun _ => ?_) (fun _ => ?_)) | (with_reducible refine aSel_split (fun _ => ?_) (fun _ => ?_)) | (with_reducible refine aGd_split (fun _ => ?_) (fun _ => ?_))))
    refine callV (hasR_A s k hs) ?_
    (repeat' (first | simp (maxSteps := 5000000) (implicitDefEqProofs := false) only [ruA, ruB, aEv, aBin, bin2, ASt.get, aget, ASt.put, aAppend, aBuildSlice, aCells, oneC, oneCL, treeC, treeL, aLit, aDst, aSrc, appTab, Value.cells, Value.oneCell', ↓reduceIte, reduceCtorEq, Nat.reduceLT, Nat.reduceEqDiff, Nat.reduceAdd, Nat.reduceMul, Nat.reduceLeDiff, eq_self, aBuildSlice1, frzs, ownIds, tyR_108] | (with_reducible refine aIf_split (fun _ => ?_) (fun _ => ?_)) | (with_reducible refine aSel_split (fun _ => ?_) (fun _ => ?_)) | (with_reducible refine aGd_split (fun _ => ?_) (fun _ => ?_))))
    refine ⟨rfl, by omega, roundI (weak_ren1 [2] ⟨(by decide), (by (first | ((simp only [envInR, tabInR, envLt, tabLt, AObj.lt, AV.lt, AV.ren, AObj.ren, List.getD_cons_zero, List.length_cons, List.length_nil, ruW, ASt.get, aget, ↓reduceIte, reduceCtorEq, Nat.reduceLT, Nat.reduceEqDiff, Nat.reduceAdd, eq_self, et]) <;> (repeat' apply And.intro) <;> first | (rw [wrapK (by omega)]; done) | (simp; done) | omega) | fail))⟩) ⟨k + 1, by omega, rfl⟩ (by simp only [slotN, ruW, ASt.get, aget, ↓reduceIte, Nat.reduceLT, eq_self]; omega)⟩
  · obtain rfl : k = 31 := by omega
    have e1 : decide (((31 : Nat) : Int) < 31) = false := by decide
    (repeat' (first | simp (maxSteps := 5000000) (implicitDefEqProofs := false) only [ruA, ruB, aEv, aBin, bin2, ASt.get, aget, ASt.put, aResL, aOne, ↓reduceIte, Nat.reduceLT, Nat.reduceEqDiff, eq_self, e1] | (with_reducible refine aIf_split (fun _ => ?_) (fun _ => ?_)) | (with_reducible refine aSel_split (fun _ => ?_) (fun _ => ?_)) | (with_reducible refine aGd_split (fun _ => ?_) (fun _ => ?_))))
    refine aGives_own ?_
    simp [ATab.get_cons, List.take_of_length_le (Nat.le_of_eq hil)]
/-- a set by its truths -/
theorem put_set (s : Int) (i : Int) (b : Bool) (h0 : 0 ≤ i) (h1 : i < 31) : sumF ((inL s).set i.toNat b) 31 = if b = true then withB s i else withoutB s i := by
  have hr := bitsN_lt (fun j => ((inL s).set i.toNat b).getD j false) 31
  have hw : (0 : Int) ≤ (if b = true then withB s i else withoutB s i) ∧ (if b = true then withB s i else withoutB s i) < 2147483648 := by
    split
    · unfold withB
      rw [if_pos ⟨h0, h1⟩]
      have : low s ||| 2 ^ i.toNat < 2 ^ 31 := Nat.or_lt_two_pow (low_lt s) (Nat.pow_lt_pow_right (by omega) (by omega))
      omega
    · unfold withoutB
      rw [if_pos ⟨h0, h1⟩]
      have : low s ^^^ (low s &&& 2 ^ i.toNat) < 2 ^ 31 := Nat.xor_lt_two_pow (low_lt s) (Nat.lt_of_le_of_lt Nat.and_le_left (low_lt s))
      omega
  unfold sumF
  refine set_ext (by omega) hw fun j hj => ?_
  rw [bitsN_has _ j hj]
  have hlen : (inL s).length = 31 := by simp [inL]
  have hg : ((inL s).set i.toNat b).getD j false = if i.toNat = j then b else hasB s (j : Int) := by
    rw [List.getD_eq_getElem?_getD, List.getElem?_set]
    split
    · rename_i h
      rw [hlen, if_pos (by omega)]
      rfl
    · simp [inL, hj]
  rw [hg]
  have e1 : (decide (0 ≤ i ∧ i < 31)) = true := by simp [h0, h1]
  split
  · rename_i h
    have h2 : ((j : Int) == i) = true := by simp; omega
    cases b
    · simp [hasB_without, h2]
    · simp [hasB_with, e1, h2]
  · rename_i h
    have h2 : ((j : Int) == i) = false := by simp; omega
    cases b
    · simp [hasB_without, h2]
    · simp [hasB_with, h2]
set_option maxRecDepth 100000 in
theorem put_A (s i : Int) (b : Bool) (hs : ok64 s) (h0 : 0 ≤ i) (h1 : i < 31) : ADet Tryz.prog 53 [eI s, eI i, eB b] (val (.int .i64 (if b = true then withB s i else withoutB s i))) := by
  refine adet_of_code mixedT Tryz.func53 rfl (by decide) Tryz.ntmps53 Tryz.results53 rfl (val_ok _) ?_
  rw [← put_set s i b h0 h1]
  have hlen : (inL s).length = 31 := by simp [inL]
  obtain ⟨q, rfl⟩ : ∃ q : Nat, i = (q : Int) := ⟨i.toNat, by omega⟩
  have e1 : decide ((q : Int) ≤ 30) = true := by simp; omega
  have hq : q < (inL s).length := by omega
  have bools_plain : ∀ row ∈ (inL s).map (fun b => [eB b]), ∀ av ∈ row, av.plain := fun row hr av ha => by
    obtain ⟨n, _, rfl⟩ := List.mem_map.1 hr
    simp at ha
    subst ha
    trivial
  have hset : (((inL s).map fun b => [eB b]).set q [eB b]) = ((inL s).set q b).map fun b => [eB b] := by rw [List.map_set]
  (repeat' (first | simp (maxSteps := 5000000) (implicitDefEqProofs := false) only [ruA, ruB, aEv, ASt.get, aget, ASt.put, envOf, ↓reduceIte, reduceCtorEq, Nat.reduceLT, Nat.reduceAdd, eq_self] | (with_reducible refine aIf_split (fun _ => ?_) (fun _ => ?_)) | (with_reducible refine aSel_split (fun _ => ?_) (fun _ => ?_)) | (with_reducible refine aGd_split (fun _ => ?_) (fun _ => ?_))))
  refine callO (inR_A s hs) (.inr bools_plain) ?_
  (repeat' (first | simp (maxSteps := 5000000) (implicitDefEqProofs := false) only [ruA, ruB, aEv, aIndex, aBin, bin2, ASt.get, aget, ASt.put, aStore, aCells, oneC, oneCL, treeC, treeL, Value.cells, Value.oneCell', ↓reduceIte, Nat.reduceLT, Nat.reduceEqDiff, eq_self, tyE_108, tyS_4, e1] | (with_reducible refine aIf_split (fun _ => ?_) (fun _ => ?_)) | (with_reducible refine aSel_split (fun _ => ?_) (fun _ => ?_)) | (with_reducible refine aGd_split (fun _ => ?_) (fun _ => ?_))))
  have hs' := sum_A ((inL s).set q b) (by simp; omega)
  rw [List.length_set, hlen] at hs'
  refine ⟨by omega, ?_⟩
  (repeat' (first | simp (maxSteps := 5000000) (implicitDefEqProofs := false) only [ruB, row_at, hq] | (with_reducible refine aIf_split (fun _ => ?_) (fun _ => ?_)) | (with_reducible refine aSel_split (fun _ => ?_) (fun _ => ?_)) | (with_reducible refine aGd_split (fun _ => ?_) (fun _ => ?_))))
  rw [hset]
  refine callV (by exact hs') ?_
  (repeat' (first | simp (maxSteps := 5000000) (implicitDefEqProofs := false) only [ruA, aEv, ASt.get, aget, ASt.put, aResL, aOne, ↓reduceIte, Nat.reduceLT, eq_self] | (with_reducible refine aIf_split (fun _ => ?_) (fun _ => ?_)) | (with_reducible refine aSel_split (fun _ => ?_) (fun _ => ?_)) | (with_reducible refine aGd_split (fun _ => ?_) (fun _ => ?_))))
end
end Go.Proofs.YtmcegfoaceilgaaGreat
