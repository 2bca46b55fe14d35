/-
  Parts of the proof: C1, NestSpec, Law, Nest, CL, NestB, NestC, NestD, NestBothSpec, EvTree, EvTree2.
-/
import Derived.Test.YtcindbpnaicemaaSkp5
import Derived.WalkKit
import Derived.Test.YtcindbpnaicemaaRows
import Derived.ProofKit
import Derived.OpenShut
import Derived.SizedLaws
import Derived.WalkSpells
import Derived.ScopeJumps
import Derived.WalkMore
import Derived.WalkLawsBesides
import Derived.Handy
import Derived.Deep.DeepCutAuto
import Derived.Deep.CutBlock
import Derived.BigQuiet
import Derived.Deep.QuietTactic
import Derived.Deep.AppendLies
import Derived.Deep.RegionLaw
import Derived.IntWalk
set_option linter.unusedVariables false
set_option linter.unusedSimpArgs false
namespace Go.Proofs.Ytcindbpnaicemaa
section
open Go.RowKit
abbrev eInst (x : Inst) : List AV := [eI x.op, eI x.la, eI x.ln, eI x.ra, eI x.rn, eI x.n, eI x.u]
abbrev sInsts (l : List Inst) : AV := .sl 7 (l.map eInst)
abbrev eGd (g : Gd) : List AV := [eI g.stage, eI g.event, sInsts g.cond]
abbrev eMl (g : Ml) : List AV := [eS g.name, eI g.stage, eI g.event, sInsts g.cond, eB g.final]
abbrev eEv (g : Ev) : List AV := [eS g.name, eI g.role, eI g.stage, sI g.sets, eI g.times]
abbrev eNI (p : ByteArray × Int) : List AV := [eS p.1, eI p.2]
abbrev eII (p : Int × Int) : List AV := [eI p.1, eI p.2]
abbrev eBI (p : Bool × Int) : List AV := [eB p.1, eI p.2]
abbrev eMod (m : Mod) : List AV := [.sl 1 (m.attrs.map fun s => [eS s]), sI m.inits, .sl 1 (m.users.map fun s => [eS s]), .sl 2 (m.roles.map eNI), .sl 2 (m.stages.map eNI), .sl 5 (m.events.map eEv), .sl 3 (m.guards.map eGd), .sl 5 (m.miles.map eMl), .sl 2 (m.sods.map eII), .sl 2 (m.order.map eBI)]
abbrev eSt (s : St) : List AV := [sI s.vals, eI s.opn, eI s.don, sI s.did, sI s.cnt]
def pars (m : Mod) : List Int := m.stages.map (·.2)
def condOk (m : Mod) : Prop := (∀ g ∈ m.guards, ∀ x ∈ g.cond, x.ok) ∧ ∀ g ∈ m.miles, ∀ x ∈ g.cond, x.ok
theorem mixedT : Try.prog.follows .mixedOrders = true := by kernel_rfl

def greatS (m : Mod) : Prop := m.guards.length ≤ 14 ∧ m.miles.length ≤ 10 ∧ m.stages.length ≤ 10 ∧ m.events.length ≤ 10 ∧ m.attrs.length ≤ 10 ∧ m.users.length ≤ 10 ∧ m.roles.length ≤ 10 ∧ m.sods.length ≤ 10 ∧ m.order.length ≤ 40 ∧ m.inits.length ≤ 10
/-- a model that is not too much -/
structure Fit (m : Mod) : Prop where
  sizes : greatS m
  guards : ∀ g ∈ m.guards, g.cond.length ≤ 80
  miles : ∀ g ∈ m.miles, g.cond.length ≤ 80
  events : ∀ g ∈ m.events, g.sets.length ≤ 10
def FitS (s : St) : Prop := s.vals.length ≤ 150 ∧ s.did.length ≤ 150 ∧ s.cnt.length ≤ 150

set_option maxRecDepth 100000 in
set_option maxHeartbeats 4000000 in
theorem great12_A (m : Mod) : ARel Try.prog 4 [.agg (eMod m)] fun R => ∃ b, R = val (.bool b) ∧ (b = false → Fit m) := by
  refine arel_of_code mixedT Try.func4 rfl (by decide) Try.ntmps4 Try.results4 rfl ?_
  (repeat' (first | simp (maxSteps := 5000000) (implicitDefEqProofs := false) only [ruA, ruB, aEv, aTake, aLoad, aField, aLen, aBin, bin2, ASt.get, aget, ASt.put, aBox, aCells, oneC, oneCL, envOf, aResL, aOne, ↓reduceIte, reduceCtorEq, Nat.reduceLT, Nat.reduceEqDiff, Nat.reduceAdd, Nat.reduceLeDiff, eq_self, ne_eq, aLenM, false_or, tyF_32_6, tyA_27, tyS_27, tyE_27, tyF_32_7, tyA_28, tyS_28, tyE_28, tyF_32_4, tyA_25, tyS_25, tyE_25, tyF_32_5, tyA_26, tyS_26, tyE_26, tyF_32_0, tyA_22, tyS_22, tyE_22, tyF_32_2, tyF_32_3, tyA_24, tyS_24, tyE_24, tyF_32_8, tyA_29, tyS_29, tyE_29, tyF_32_9, tyA_30, tyS_30, tyE_30, tyF_32_1, tyA_23, tyS_23, tyE_23] | (with_reducible refine aIf_split (fun _ => ?_) (fun _ => ?_)) | (with_reducible refine aSel_split (fun _ => ?_) (fun _ => ?_)) | (with_reducible refine aGd_split (fun _ => ?_) (fun _ => ?_))))
  all_goals first | with_reducible exact retV ⟨true, rfl, fun h => by cases h⟩ | skip
  have hS : greatS m := by simp_all [greatS]; omega
  obtain ⟨h1, h2, h3, h4, h5, h6, h7, h8, h9, h10⟩ := id hS
  refine aLoop_of (fun st => ∃ k : Nat, k ≤ m.guards.length ∧ (∀ i (h : i < m.guards.length), i < k → m.guards[i].cond.length ≤ 80) ∧ st = ⟨109, [(1, .op 0 0 0), (3, eI (k : Int))], [(0, some (.box 32 (eMod m)))], 1⟩) (fun st => m.guards.length - slotN st 3) ⟨_, (weak_cut1 (by (first | ((simp only [envIn, tabIn, envLt, tabLt, AObj.lt, AV.lt, AV.ltL, ruW, ASt.get, aget, ↓reduceIte, Nat.reduceLT, Nat.reduceEqDiff, eq_self]) <;> (repeat' apply And.intro) <;> first | (rw [wrapK (by omega)]; done) | (simp; done) | omega) | fail))), 0, Nat.zero_le _, ?_, rfl⟩ ?_
  · exact fun i h h2 => absurd h2 (by omega)
  rintro _ ⟨k, hk, hg, rfl⟩
  by_cases hlt : k < m.guards.length
  · (repeat' (first | simp (maxSteps := 5000000) (implicitDefEqProofs := false) only [ruA, ruB, aEv, aTake, aLoad, aField, aIndex, aLen, aBin, bin2, ASt.get, aget, ASt.put, aResL, aOne, ↓reduceIte, reduceCtorEq, Nat.reduceLT, Nat.reduceEqDiff, Nat.reduceAdd, Nat.reduceLeDiff, eq_self, ne_eq, aLenM, false_or, tyF_32_6, tyA_27, tyS_27, tyE_27, tyF_52_2, tyA_50, tyS_50, tyE_50, row_at, hlt] | (with_reducible refine aIf_split (fun _ => ?_) (fun _ => ?_)) | (with_reducible refine aSel_split (fun _ => ?_) (fun _ => ?_)) | (with_reducible refine aGd_split (fun _ => ?_) (fun _ => ?_))))
    · with_reducible exact retV ⟨true, rfl, fun h => by cases h⟩
    · rename_i hc
      refine roundI (weak_cut1 (by (first | ((simp only [envIn, tabIn, envLt, tabLt, AObj.lt, AV.lt, AV.ltL, ruW, ASt.get, aget, ↓reduceIte, Nat.reduceLT, Nat.reduceEqDiff, eq_self]) <;> (repeat' apply And.intro) <;> first | (rw [wrapK (by omega)]; done) | (simp; done) | omega) | fail))) ⟨k + 1, by omega, fun i h h2 => ?_, rfl⟩ (by simp only [slotN, ASt.get, aget, ↓reduceIte, Nat.reduceLT, Nat.reduceEqDiff, eq_self]; omega)
      rcases Nat.lt_or_ge i k with h3 | h3
      · exact hg i h h3
      · obtain rfl : i = k := by omega
        simp at hc
        omega
  simp (maxSteps := 5000000) (implicitDefEqProofs := false) only [ruA, ruB, aEv, aTake, aLoad, aField, aLen, aBin, bin2, ASt.get, aget, ASt.put, ↓reduceIte, reduceCtorEq, Nat.reduceLT, Nat.reduceEqDiff, Nat.reduceAdd, Nat.reduceLeDiff, eq_self, ne_eq, aLenM, false_or, tyF_32_6, tyA_27, tyS_27, tyE_27, hlt]
  refine aLoop_of (fun st => ∃ q : Nat, q ≤ m.miles.length ∧ (∀ i (h : i < m.miles.length), i < q → m.miles[i].cond.length ≤ 80) ∧ st = ⟨109, [(1, .op 0 0 0), (4, eI (q : Int))], [(0, some (.box 32 (eMod m)))], 1⟩) (fun st => m.miles.length - slotN st 4) ⟨_, (weak_cut1 (by (first | ((simp only [envIn, tabIn, envLt, tabLt, AObj.lt, AV.lt, AV.ltL, ruW, ASt.get, aget, ↓reduceIte, Nat.reduceLT, Nat.reduceEqDiff, eq_self]) <;> (repeat' apply And.intro) <;> first | (rw [wrapK (by omega)]; done) | (simp; done) | omega) | fail))), 0, Nat.zero_le _, ?_, rfl⟩ ?_
  · exact fun i h h2 => absurd h2 (by omega)
  rintro _ ⟨q, hq, hm, rfl⟩
  by_cases hlt2 : q < m.miles.length
  · (repeat' (first | simp (maxSteps := 5000000) (implicitDefEqProofs := false) only [ruA, ruB, aEv, aTake, aLoad, aField, aIndex, aLen, aBin, bin2, ASt.get, aget, ASt.put, aResL, aOne, ↓reduceIte, reduceCtorEq, Nat.reduceLT, Nat.reduceEqDiff, Nat.reduceAdd, Nat.reduceLeDiff, eq_self, ne_eq, aLenM, false_or, tyF_32_7, tyA_28, tyS_28, tyE_28, tyA_50, tyS_50, tyE_50, tyF_54_3, row_at, hlt2] | (with_reducible refine aIf_split (fun _ => ?_) (fun _ => ?_)) | (with_reducible refine aSel_split (fun _ => ?_) (fun _ => ?_)) | (with_reducible refine aGd_split (fun _ => ?_) (fun _ => ?_))))
    · with_reducible exact retV ⟨true, rfl, fun h => by cases h⟩
    · rename_i hc
      refine roundI (weak_cut1 (by (first | ((simp only [envIn, tabIn, envLt, tabLt, AObj.lt, AV.lt, AV.ltL, ruW, ASt.get, aget, ↓reduceIte, Nat.reduceLT, Nat.reduceEqDiff, eq_self]) <;> (repeat' apply And.intro) <;> first | (rw [wrapK (by omega)]; done) | (simp; done) | omega) | fail))) ⟨q + 1, by omega, fun i h h2 => ?_, rfl⟩ (by simp only [slotN, ASt.get, aget, ↓reduceIte, Nat.reduceLT, Nat.reduceEqDiff, eq_self]; omega)
      rcases Nat.lt_or_ge i q with h3 | h3
      · exact hm i h h3
      · obtain rfl : i = q := by omega
        simp at hc
        omega
  simp (maxSteps := 5000000) (implicitDefEqProofs := false) only [ruA, ruB, aEv, aTake, aLoad, aField, aLen, aBin, bin2, ASt.get, aget, ASt.put, ↓reduceIte, reduceCtorEq, Nat.reduceLT, Nat.reduceEqDiff, Nat.reduceAdd, Nat.reduceLeDiff, eq_self, ne_eq, aLenM, false_or, tyF_32_7, tyA_28, tyS_28, tyE_28, hlt2]
  refine aLoop_of (fun st => ∃ r : Nat, r ≤ m.events.length ∧ (∀ i (h : i < m.events.length), i < r → m.events[i].sets.length ≤ 10) ∧ st = ⟨109, [(1, .op 0 0 0), (5, eI (r : Int))], [(0, some (.box 32 (eMod m)))], 1⟩) (fun st => m.events.length - slotN st 5) ⟨_, (weak_cut1 (by (first | ((simp only [envIn, tabIn, envLt, tabLt, AObj.lt, AV.lt, AV.ltL, ruW, ASt.get, aget, ↓reduceIte, Nat.reduceLT, Nat.reduceEqDiff, eq_self]) <;> (repeat' apply And.intro) <;> first | (rw [wrapK (by omega)]; done) | (simp; done) | omega) | fail))), 0, Nat.zero_le _, ?_, rfl⟩ ?_
  · exact fun i h h2 => absurd h2 (by omega)
  rintro _ ⟨r, hr, he, rfl⟩
  by_cases hlt3 : r < m.events.length
  · (repeat' (first | simp (maxSteps := 5000000) (implicitDefEqProofs := false) only [ruA, ruB, aEv, aTake, aLoad, aField, aIndex, aLen, aBin, bin2, ASt.get, aget, ASt.put, aResL, aOne, ↓reduceIte, reduceCtorEq, Nat.reduceLT, Nat.reduceEqDiff, Nat.reduceAdd, Nat.reduceLeDiff, eq_self, ne_eq, aLenM, false_or, tyF_32_5, tyA_26, tyS_26, tyE_26, tyF_56_3, tyA_33, tyS_33, tyE_33, row_at, hlt3] | (with_reducible refine aIf_split (fun _ => ?_) (fun _ => ?_)) | (with_reducible refine aSel_split (fun _ => ?_) (fun _ => ?_)) | (with_reducible refine aGd_split (fun _ => ?_) (fun _ => ?_))))
    · with_reducible exact retV ⟨true, rfl, fun h => by cases h⟩
    · rename_i hc
      refine roundI (weak_cut1 (by (first | ((simp only [envIn, tabIn, envLt, tabLt, AObj.lt, AV.lt, AV.ltL, ruW, ASt.get, aget, ↓reduceIte, Nat.reduceLT, Nat.reduceEqDiff, eq_self]) <;> (repeat' apply And.intro) <;> first | (rw [wrapK (by omega)]; done) | (simp; done) | omega) | fail))) ⟨r + 1, by omega, fun i h h2 => ?_, rfl⟩ (by simp only [slotN, ASt.get, aget, ↓reduceIte, Nat.reduceLT, Nat.reduceEqDiff, eq_self]; omega)
      rcases Nat.lt_or_ge i r with h3 | h3
      · exact he i h h3
      · obtain rfl : i = r := by omega
        simp at hc
        omega
  simp (maxSteps := 5000000) (implicitDefEqProofs := false) only [ruA, ruB, aEv, aTake, aLoad, aField, aLen, aBin, bin2, ASt.get, aget, ASt.put, aResL, aOne, ↓reduceIte, reduceCtorEq, Nat.reduceLT, Nat.reduceEqDiff, Nat.reduceAdd, Nat.reduceLeDiff, eq_self, ne_eq, aLenM, false_or, tyF_32_5, tyA_26, tyS_26, tyE_26, hlt3]
  refine retV ⟨false, rfl, fun _ => ⟨hS, fun g hg' => ?_, fun g hg' => ?_, fun g hg' => ?_⟩⟩
  · obtain ⟨i, hi, rfl⟩ := List.getElem_of_mem hg'
    exact hg i hi (by omega)
  · obtain ⟨i, hi, rfl⟩ := List.getElem_of_mem hg'
    exact hm i hi (by omega)
  · obtain ⟨i, hi, rfl⟩ := List.getElem_of_mem hg'
    exact he i hi (by omega)
set_option maxRecDepth 100000 in
theorem great15_A (s : St) : ARel Try.prog 5 [.agg (eSt s)] fun R => ∃ b, R = val (.bool b) ∧ (b = false → FitS s) := by
  refine arel_of_code mixedT Try.func5 rfl (by decide) Try.ntmps5 Try.results5 rfl ?_
  (repeat' (first | simp (maxSteps := 5000000) (implicitDefEqProofs := false) only [ruA, ruB, aEv, aTake, aLoad, aField, aLen, aBin, bin2, ASt.get, aget, ASt.put, aBox, aCells, oneC, oneCL, Value.oneCell', envOf, aResL, aOne, ↓reduceIte, reduceCtorEq, Nat.reduceLT, Nat.reduceEqDiff, Nat.reduceAdd, Nat.reduceLeDiff, eq_self, ne_eq, aLenM, false_or, tyF_35_0, tyA_23, tyS_23, tyE_23, tyF_35_3, tyA_33, tyS_33, tyE_33, tyF_35_4] | (with_reducible refine aIf_split (fun _ => ?_) (fun _ => ?_)) | (with_reducible refine aSel_split (fun _ => ?_) (fun _ => ?_)) | (with_reducible refine aGd_split (fun _ => ?_) (fun _ => ?_))))
  all_goals with_reducible refine retV ⟨_, rfl, fun h => ?_⟩
  all_goals first | (cases h; done) | (simp_all [FitS]; omega)
def inB (n most : Int) : Bool := decide (0 ≤ n) && decide (n < most)
theorem in_A (n most : Int) : ADet Try.prog 33 [eI n, eI most] (val (.bool (inB n most))) := by
  refine adet_of_code mixedT Try.func33 rfl (by decide) Try.ntmps33 Try.results33 rfl (val_ok _) ?_
  simp (maxSteps := 5000000) (implicitDefEqProofs := false) only [ruA, ruB, aEv, aBin, bin2, ASt.get, aget, ASt.put, envOf, ↓reduceIte, reduceCtorEq, Nat.reduceLT, eq_self]
  unfold inB
  with_reducible refine aGd_split (fun h => ?_) (fun h => ?_) <;> simp (maxSteps := 5000000) (implicitDefEqProofs := false) only [ruA, ruB, aEv, aBin, bin2, ASt.get, aget, ASt.put, aResL, aOne, ↓reduceIte, reduceCtorEq, Nat.reduceLT, Nat.reduceEqDiff, eq_self] <;> simp at h <;> simp [h] <;> omega
theorem sets_A (m : Mod) (l : List Int) (hl : l.length ≤ 1000000) (b : Bool) (hb : b = true ↔ ∀ i (h : i < l.length), inB l[i] m.attrs.length = true ∧ ∀ j (h : j < i), l[j] ≠ l[i]) : ADet Try.prog 34 [.agg (eMod m), sI l] (val (.bool b)) := by
  refine adet_of_code mixedT Try.func34 rfl (by decide) Try.ntmps34 Try.results34 rfl (val_ok _) ?_
  simp (maxSteps := 5000000) (implicitDefEqProofs := false) only [ruA, ruB, aEv, ASt.get, aget, ASt.put, aBox, aCells, oneC, oneCL, envOf, ↓reduceIte, Nat.reduceLT, eq_self]
  refine aLoop_of (fun st => ∃ k : Nat, k ≤ l.length ∧ (∀ i (h : i < l.length), i < k → inB l[i] m.attrs.length = true ∧ ∀ j (h : j < i), l[j] ≠ l[i]) ∧ st = ⟨36, [(1, sI l), (2, .op 0 0 0), (5, eI k)], [(0, some (.box 32 (eMod m)))], 1⟩) (fun st => l.length - slotN st 5)
    ⟨_, (weak_cut1 (by (first | ((simp only [envIn, tabIn, envLt, tabLt, AObj.lt, AV.lt, AV.ltL, ruW, ASt.get, aget, ↓reduceIte, Nat.reduceLT, Nat.reduceEqDiff, eq_self]) <;> (repeat' apply And.intro) <;> first | (rw [wrapK (by omega)]; done) | (simp; done) | omega) | fail))), 0, Nat.zero_le _, fun i h1 h2 => absurd h2 (by omega), rfl⟩ ?_
  rintro _ ⟨k, hk, hI, rfl⟩
  by_cases hlt : k < l.length
  · simp (maxSteps := 5000000) (implicitDefEqProofs := false) only [ruA, ruB, aEv, aLen, aBin, bin2, ASt.get, aget, ASt.put, ↓reduceIte, Nat.reduceLT, Nat.reduceEqDiff, eq_self, ne_eq, aLenM, false_or, tyE_33, hlt]
    refine aDraw_quiet (by kernel_rfl) ?_
    simp (maxSteps := 5000000) (implicitDefEqProofs := false) only [ruA, ruB, aEv, aTake, aLoad, aField, aIndex, aLen, aUn, un1, ASt.get, aget, ASt.put, ↓reduceIte, reduceCtorEq, Nat.reduceLT, Nat.reduceEqDiff, Nat.reduceAdd, Nat.reduceLeDiff, eq_self, ne_eq, dref, tyE_33, tyA_3, tyS_3, tyF_32_0, tyA_22, tyS_22, tyE_22, row_at, hlt]
    refine callD (in_A _ _) ?_
    simp (maxSteps := 5000000) (implicitDefEqProofs := false) only [ruA]
    with_reducible refine aIf_split (fun hin => ?_) (fun hin => ?_) <;> simp (maxSteps := 5000000) (implicitDefEqProofs := false) only [ruA, ruB, aEv, ASt.get, aget, ASt.put, aResL, aOne, ↓reduceIte, Nat.reduceLT, eq_self]
    · simp at hin
      symm
      rw [Bool.eq_false_iff]
      intro hbt
      have := (hb.1 hbt k hlt).1
      rw [hin] at this
      cases this
    · simp at hin
      refine aLoop_of (fun st => ∃ q : Nat, q ≤ k ∧ (∀ j (h : j < k), j < q → l[j] ≠ l[k]) ∧ st = ⟨36, [(1, sI l), (2, .op 0 0 0), (5, eI k), (6, eI q)], [(0, some (.box 32 (eMod m)))], 1⟩) (fun st => k - slotN st 6)
        ⟨_, (weak_cut1 (by (first | ((simp only [envIn, tabIn, envLt, tabLt, AObj.lt, AV.lt, AV.ltL, ruW, ASt.get, aget, ↓reduceIte, Nat.reduceLT, Nat.reduceEqDiff, eq_self]) <;> (repeat' apply And.intro) <;> first | (rw [wrapK (by omega)]; done) | (simp; done) | omega) | fail))), 0, Nat.zero_le _, fun i h1 h2 => absurd h2 (by omega), rfl⟩ ?_
      rintro _ ⟨q, hq, hJ, rfl⟩
      by_cases hqk : q < k
      · have hql : q < l.length := by omega
        simp (maxSteps := 5000000) (implicitDefEqProofs := false) only [ruA, ruB, aEv, aBin, bin2, ASt.get, aget, ASt.put, ↓reduceIte, Nat.reduceLT, Nat.reduceEqDiff, eq_self, ne_eq, hqk]
        refine aDraw_quiet (by kernel_rfl) ?_
        simp (maxSteps := 5000000) (implicitDefEqProofs := false) only [ruA, ruB, aEv, aTake, aLoad, aIndex, aBin, bin2, ASt.get, aget, ASt.put, ↓reduceIte, reduceCtorEq, Nat.reduceLT, Nat.reduceEqDiff, eq_self, tyE_33, tyA_3, tyS_3, row_at, hlt, hql]
        with_reducible refine aIf_split (fun he => ?_) (fun he => ?_) <;> simp (maxSteps := 5000000) (implicitDefEqProofs := false) only [ruA, ruB, aEv, aBin, bin2, ASt.get, aget, ASt.put, aResL, aOne, ↓reduceIte, Nat.reduceLT, Nat.reduceEqDiff, eq_self]
        · symm
          rw [Bool.eq_false_iff]
          intro hbt
          exact (hb.1 hbt k hlt).2 q hqk (by simpa using he)
        · refine roundI (weak_cut1 (by (first | ((simp only [envIn, tabIn, envLt, tabLt, AObj.lt, AV.lt, AV.ltL, ruW, ASt.get, aget, ↓reduceIte, Nat.reduceLT, Nat.reduceEqDiff, eq_self]) <;> (repeat' apply And.intro) <;> first | (rw [wrapK (by omega)]; done) | (simp; done) | omega) | fail))) ⟨q + 1, by omega, fun j h1 h2 => ?_, rfl⟩ ?_
          · simp at he
            rcases Nat.lt_or_ge j q with h3 | h3
            · exact hJ j h1 h3
            · obtain rfl : j = q := by omega
              exact he
          · exact (by simp only [slotN, ruW, ASt.get, aget, ↓reduceIte, Nat.reduceLT, Nat.reduceEqDiff, eq_self]; omega)
      · simp (maxSteps := 5000000) (implicitDefEqProofs := false) only [ruA, ruB, aEv, aBin, bin2, ASt.get, aget, ASt.put, ↓reduceIte, Nat.reduceLT, Nat.reduceEqDiff, eq_self, ne_eq, hqk]
        refine roundI (weak_cut1 (by (first | ((simp only [envIn, tabIn, envLt, tabLt, AObj.lt, AV.lt, AV.ltL, ruW, ASt.get, aget, ↓reduceIte, Nat.reduceLT, Nat.reduceEqDiff, eq_self]) <;> (repeat' apply And.intro) <;> first | (rw [wrapK (by omega)]; done) | (simp; done) | omega) | fail))) ⟨k + 1, by omega, fun j h1 h2 => ?_, rfl⟩ ?_
        · rcases Nat.lt_or_ge j k with h3 | h3
          · exact hI j h1 h3
          · obtain rfl : j = k := by omega
            exact ⟨hin, fun i hi => hJ i hi (by omega)⟩
        · exact (by simp only [slotN, ASt.get, aget, ↓reduceIte, Nat.reduceLT, Nat.reduceEqDiff, eq_self]; omega)
  · simp (maxSteps := 5000000) (implicitDefEqProofs := false) only [ruA, ruB, aEv, aLen, aBin, bin2, ASt.get, aget, ASt.put, aResL, aOne, ↓reduceIte, Nat.reduceLT, Nat.reduceEqDiff, eq_self, ne_eq, aLenM, false_or, tyE_33, hlt]
    symm
    exact hb.2 fun i h => hI i h (by omega)

theorem same03_A (a b : List Int) (ha : a.length ≤ 1000000) : ADet Try.prog 30 [sI a, sI b] (val (.bool (decide (a = b)))) := by
  refine adet_of_code mixedT Try.func30 rfl (by decide) Try.ntmps30 Try.results30 rfl (val_ok _) ?_
  simp (maxSteps := 5000000) (implicitDefEqProofs := false) only [ruA, ruB, aEv, aLen, aBin, bin2, ASt.get, aget, ASt.put, envOf, ↓reduceIte, reduceCtorEq, Nat.reduceLT, Nat.reduceEqDiff, eq_self, ne_eq, aLenM, false_or, tyE_23]
  with_reducible refine aIf_split (fun he => ?_) (fun he => ?_) <;> simp (maxSteps := 5000000) (implicitDefEqProofs := false) only [ruA, ruB, aEv, ASt.get, aget, ASt.put, aResL, aOne, ↓reduceIte, Nat.reduceLT, eq_self]
  · symm
    rw [decide_eq_false_iff_not]
    rintro rfl
    simp at he
  have hl : a.length = b.length := by simp at he; omega
  refine aLoop_of (fun st => ∃ k : Nat, k ≤ a.length ∧ (∀ i (h : i < a.length) (h2 : i < b.length), i < k → a[i] = b[i]) ∧ st = ⟨26, [(0, sI a), (1, sI b), (5, eI (k : Int))], [], 0⟩) (fun st => a.length - slotN st 5) ⟨_, (weak_cut1 (by (first | ((simp only [envIn, tabIn, envLt, tabLt, AV.lt, ruW, ASt.get, aget, ↓reduceIte, reduceCtorEq, Nat.reduceLT, Nat.reduceEqDiff, eq_self]) <;> (repeat' apply And.intro) <;> first | (rw [wrapK (by omega)]; done) | (simp; done) | omega) | fail))), 0, Nat.zero_le _, ?_, rfl⟩ ?_
  · exact fun i h h2 h3 => absurd h3 (by omega)
  rintro _ ⟨k, hk, hI, rfl⟩
  by_cases hlt : k < a.length
  · have hlt2 : k < b.length := by omega
    simp (maxSteps := 5000000) (implicitDefEqProofs := false) only [ruA, ruB, aEv, aLen, aBin, bin2, ASt.get, aget, ASt.put, ↓reduceIte, reduceCtorEq, Nat.reduceLT, Nat.reduceEqDiff, eq_self, ne_eq, aLenM, false_or, tyE_23, hlt]
    refine aDraw_quiet (by kernel_rfl) ?_
    simp (maxSteps := 5000000) (implicitDefEqProofs := false) only [ruA, ruB, aEv, aTake, aLoad, aIndex, aBin, bin2, ASt.get, aget, ASt.put, ↓reduceIte, reduceCtorEq, Nat.reduceLT, Nat.reduceEqDiff, eq_self, tyE_23, tyA_2, tyS_2, row_at, hlt, hlt2]
    with_reducible refine aIf_split (fun hn => ?_) (fun hn => ?_) <;> simp (maxSteps := 5000000) (implicitDefEqProofs := false) only [ruA, ruB, aEv, aBin, bin2, ASt.get, aget, ASt.put, aResL, aOne, ↓reduceIte, Nat.reduceLT, Nat.reduceEqDiff, eq_self]
    · symm
      rw [decide_eq_false_iff_not]
      rintro rfl
      simp at hn
    · refine roundI (weak_cut1 (by (first | ((simp only [envIn, tabIn, envLt, tabLt, AV.lt, ruW, ASt.get, aget, ↓reduceIte, reduceCtorEq, Nat.reduceLT, Nat.reduceEqDiff, eq_self]) <;> (repeat' apply And.intro) <;> first | (rw [wrapK (by omega)]; done) | (simp; done) | omega) | fail))) ⟨k + 1, by omega, fun i h h2 h3 => ?_, rfl⟩ (by simp only [slotN, ruW, ASt.get, aget, ↓reduceIte, Nat.reduceLT, Nat.reduceEqDiff, eq_self]; omega)
      rcases Nat.lt_or_ge i k with h4 | h4
      · exact hI i h h2 h4
      · obtain rfl : i = k := by omega
        simpa using hn
  · simp (maxSteps := 5000000) (implicitDefEqProofs := false) only [ruA, ruB, aEv, aLen, aBin, bin2, ASt.get, aget, ASt.put, aResL, aOne, ↓reduceIte, reduceCtorEq, Nat.reduceLT, Nat.reduceEqDiff, eq_self, ne_eq, aLenM, false_or, tyE_23, hlt]
    symm
    rw [decide_eq_true_iff]
    exact List.ext_getElem hl fun i h1 h2 => hI i h1 h2 (by omega)
theorem same10_A (a b : List Int) (ha : a.length ≤ 1000000) : ADet Try.prog 31 [sI a, sI b] (val (.bool (decide (a = b)))) := by
  refine adet_of_code mixedT Try.func31 rfl (by decide) Try.ntmps31 Try.results31 rfl (val_ok _) ?_
  simp (maxSteps := 5000000) (implicitDefEqProofs := false) only [ruA, ruB, aEv, aLen, aBin, bin2, ASt.get, aget, ASt.put, envOf, ↓reduceIte, reduceCtorEq, Nat.reduceLT, Nat.reduceEqDiff, eq_self, ne_eq, aLenM, false_or, tyE_33]
  with_reducible refine aIf_split (fun he => ?_) (fun he => ?_) <;> simp (maxSteps := 5000000) (implicitDefEqProofs := false) only [ruA, ruB, aEv, ASt.get, aget, ASt.put, aResL, aOne, ↓reduceIte, Nat.reduceLT, eq_self]
  · symm
    rw [decide_eq_false_iff_not]
    rintro rfl
    simp at he
  have hl : a.length = b.length := by simp at he; omega
  refine aLoop_of (fun st => ∃ k : Nat, k ≤ a.length ∧ (∀ i (h : i < a.length) (h2 : i < b.length), i < k → a[i] = b[i]) ∧ st = ⟨26, [(0, sI a), (1, sI b), (5, eI (k : Int))], [], 0⟩) (fun st => a.length - slotN st 5) ⟨_, (weak_cut1 (by (first | ((simp only [envIn, tabIn, envLt, tabLt, AV.lt, ruW, ASt.get, aget, ↓reduceIte, reduceCtorEq, Nat.reduceLT, Nat.reduceEqDiff, eq_self]) <;> (repeat' apply And.intro) <;> first | (rw [wrapK (by omega)]; done) | (simp; done) | omega) | fail))), 0, Nat.zero_le _, ?_, rfl⟩ ?_
  · exact fun i h h2 h3 => absurd h3 (by omega)
  rintro _ ⟨k, hk, hI, rfl⟩
  by_cases hlt : k < a.length
  · have hlt2 : k < b.length := by omega
    simp (maxSteps := 5000000) (implicitDefEqProofs := false) only [ruA, ruB, aEv, aLen, aBin, bin2, ASt.get, aget, ASt.put, ↓reduceIte, reduceCtorEq, Nat.reduceLT, Nat.reduceEqDiff, eq_self, ne_eq, aLenM, false_or, tyE_33, hlt]
    refine aDraw_quiet (by kernel_rfl) ?_
    simp (maxSteps := 5000000) (implicitDefEqProofs := false) only [ruA, ruB, aEv, aTake, aLoad, aIndex, aBin, bin2, ASt.get, aget, ASt.put, ↓reduceIte, reduceCtorEq, Nat.reduceLT, Nat.reduceEqDiff, eq_self, tyE_33, tyA_3, tyS_3, row_at, hlt, hlt2]
    with_reducible refine aIf_split (fun hn => ?_) (fun hn => ?_) <;> simp (maxSteps := 5000000) (implicitDefEqProofs := false) only [ruA, ruB, aEv, aBin, bin2, ASt.get, aget, ASt.put, aResL, aOne, ↓reduceIte, Nat.reduceLT, Nat.reduceEqDiff, eq_self]
    · symm
      rw [decide_eq_false_iff_not]
      rintro rfl
      simp at hn
    · refine roundI (weak_cut1 (by (first | ((simp only [envIn, tabIn, envLt, tabLt, AV.lt, ruW, ASt.get, aget, ↓reduceIte, reduceCtorEq, Nat.reduceLT, Nat.reduceEqDiff, eq_self]) <;> (repeat' apply And.intro) <;> first | (rw [wrapK (by omega)]; done) | (simp; done) | omega) | fail))) ⟨k + 1, by omega, fun i h h2 h3 => ?_, rfl⟩ (by simp only [slotN, ruW, ASt.get, aget, ↓reduceIte, Nat.reduceLT, Nat.reduceEqDiff, eq_self]; omega)
      rcases Nat.lt_or_ge i k with h4 | h4
      · exact hI i h h2 h4
      · obtain rfl : i = k := by omega
        simpa using hn
  · simp (maxSteps := 5000000) (implicitDefEqProofs := false) only [ruA, ruB, aEv, aLen, aBin, bin2, ASt.get, aget, ASt.put, aResL, aOne, ↓reduceIte, reduceCtorEq, Nat.reduceLT, Nat.reduceEqDiff, eq_self, ne_eq, aLenM, false_or, tyE_33, hlt]
    symm
    rw [decide_eq_true_iff]
    exact List.ext_getElem hl fun i h1 h2 => hI i h1 h2 (by omega)
end
section
theorem nodup_len : ∀ (n : Nat) (l : List Int), l.Nodup → (∀ x ∈ l, 0 ≤ x ∧ x < (n : Int)) → l.length ≤ n := by
  intro n
  induction n with
  | zero =>
    intro l _ h
    cases l with
    | nil => simp
    | cons x l => have := h x (by simp); omega
  | succ n ih =>
    intro l hn h
    by_cases hm : (n : Int) ∈ l
    · have h1 := ih (l.erase (n : Int)) (hn.erase _) (fun x hx => by
        have := (hn.mem_erase_iff).1 hx
        have := h x this.2
        omega)
      rw [List.length_erase_of_mem hm] at h1
      omega
    · have := ih l hn (fun x hx => by
        have h2 := h x hx
        have : x ≠ (n : Int) := fun e => hm (e ▸ hx)
        omega)
      omega

/-- is it a place? -/
def isAt (l : List Int) (i : Int) : Prop := 0 ≤ i ∧ i < (l.length : Int)
instance (l : List Int) (i : Int) : Decidable (isAt l i) := by unfold isAt; infer_instance
/-- the place itself; -1: it is none -/
def norm (l : List Int) (i : Int) : Int := if isAt l i then i else -1
/-- the place that a place lies in; -1: none -/
def par (l : List Int) (i : Int) : Int := if isAt l i then norm l (l.getD i.toNat 0) else -1
def upN (l : List Int) (i : Int) : Nat → Int
  | 0 => norm l i
  | k + 1 => par l (upN l i k)
/-- the places above, so many at the most -/
def goUp (l : List Int) (i : Int) : Nat → Int → List Int → List Int
  | 0, _, out => out
  | f + 1, p, out => if par l p = -1 ∨ par l p = i ∨ par l p ∈ out then out else goUp l i f (par l p) (out ++ [par l p])
def aboveL (l : List Int) (i : Int) : List Int := goUp l i l.length i []

theorem norm_cases (l : List Int) (i : Int) : (isAt l i ∧ norm l i = i) ∨ (¬ isAt l i ∧ norm l i = -1) := by
  unfold norm; split <;> simp [*]
theorem norm_at (l : List Int) (i : Int) : norm l i = -1 ∨ isAt l (norm l i) := by
  rcases norm_cases l i with ⟨h, e⟩ | ⟨_, e⟩ <;> rw [e]
  · exact .inr h
  · exact .inl rfl
theorem par_at (l : List Int) (i : Int) : par l i = -1 ∨ isAt l (par l i) := by
  unfold par; split
  · exact norm_at _ _
  · exact .inl rfl
theorem par_norm (l : List Int) (i : Int) : par l (norm l i) = par l i := by
  rcases norm_cases l i with ⟨h, e⟩ | ⟨h, e⟩
  · rw [e]
  · rw [e]; unfold par; rw [if_neg h, if_neg (by simp [isAt])]
theorem par_none (l : List Int) : par l (-1) = -1 := by unfold par; rw [if_neg (by simp [isAt])]
theorem upN_none (l : List Int) (i : Int) (k : Nat) (h : upN l i k = -1) : ∀ d, upN l i (k + d) = -1
  | 0 => h
  | d + 1 => by rw [← Nat.add_assoc, upN, upN_none l i k h d, par_none]
theorem upN_one (l : List Int) (i : Int) : upN l i 1 = par l i := par_norm l i

/-- the state of the way up: so many places told, all unlike, none the first one -/
structure UpAt (l : List Int) (i : Int) (m : Nat) (p : Int) (out : List Int) : Prop where
  len : out.length = m
  eq : ∀ j, j < m → out[j]? = some (upN l i (j + 1))
  cur : par l p = upN l i (m + 1)
  nodup : out.Nodup
  at_ : ∀ x ∈ out, isAt l x
  not : i ∉ out
  room : m ≤ l.length
  rest : goUp l i (l.length - m) p out = aboveL l i
theorem UpAt.start (l : List Int) (i : Int) : UpAt l i 0 i [] :=
  ⟨rfl, fun j h => by omega, (upN_one l i).symm, List.nodup_nil, fun x h => by simp at h, by simp, by omega, rfl⟩
def stops (l : List Int) (i : Int) (p : Int) (out : List Int) : Prop := par l p = -1 ∨ par l p = i ∨ par l p ∈ out
instance (l : List Int) (i p : Int) (out : List Int) : Decidable (stops l i p out) := by unfold stops; infer_instance
theorem UpAt.stop {l : List Int} {i : Int} {m : Nat} {p : Int} {out : List Int} (h : UpAt l i m p out) (hs : stops l i p out) : out = aboveL l i := by
  rw [← h.rest]
  cases l.length - m with
  | zero => rfl
  | succ f => rw [goUp]; exact (if_pos hs).symm
theorem UpAt.next {l : List Int} {i : Int} {m : Nat} {p : Int} {out : List Int} (h : UpAt l i m p out) (hs : ¬ stops l i p out) : UpAt l i (m + 1) (par l p) (out ++ [par l p]) ∧ m + 1 ≤ l.length := by
  unfold stops at hs
  simp only [not_or] at hs
  have hat : isAt l (par l p) := (par_at l p).resolve_left hs.1
  have hnd : (out ++ [par l p]).Nodup := by
    rw [List.nodup_append]
    refine ⟨h.nodup, by simp, fun a ha b hb e => ?_⟩
    simp at hb
    subst hb; subst e
    exact hs.2.2 ha
  have hall : ∀ x ∈ out ++ [par l p], isAt l x := by
    intro x hx
    rcases List.mem_append.1 hx with hx | hx
    · exact h.at_ x hx
    · simp at hx; subst hx; exact hat
  have hlen : m + 1 ≤ l.length := by
    have := nodup_len l.length _ hnd hall
    simp [h.len] at this
    exact this
  refine ⟨⟨by simp [h.len], fun j hj => ?_, by rw [show upN l i (m + 1 + 1) = par l (upN l i (m + 1)) from rfl, h.cur], hnd, hall, ?_, hlen, ?_⟩, hlen⟩
  · by_cases hjm : j < m
    · rw [List.getElem?_append_left (by rw [h.len]; exact hjm)]; exact h.eq j hjm
    · have : j = m := by omega
      subst this
      rw [List.getElem?_append_right (by rw [h.len]; omega), h.len, Nat.sub_self]
      simp [h.cur]
  · intro hi
    rcases List.mem_append.1 hi with hi | hi
    · exact h.not hi
    · simp at hi; exact hs.2.1 hi.symm
  · have := h.rest
    rw [show l.length - m = (l.length - (m + 1)) + 1 from by omega, goUp, if_neg (by simp only [not_or]; exact hs)] at this
    exact this
/-- the way up ends -/
theorem up_end (l : List Int) (i : Int) : ∃ m p, UpAt l i m p (aboveL l i) ∧ stops l i p (aboveL l i) := by
  have key : ∀ (f m : Nat) (p : Int) (out : List Int), UpAt l i m p out → l.length + 1 - m ≤ f → ∃ m p, UpAt l i m p (aboveL l i) ∧ stops l i p (aboveL l i) := by
    intro f
    induction f with
    | zero => intro m p out h hf; have := h.room; omega
    | succ f ih =>
      intro m p out h hf
      by_cases hs : stops l i p out
      · have e := h.stop hs
        rw [e] at h hs
        exact ⟨m, p, h, hs⟩
      · have := (h.next hs).1
        exact ih _ _ _ this (by omega)
  exact key _ 0 i [] (UpAt.start l i) (Nat.le_refl _)

/-- does the way up come back to where it began? -/
def circ (l : List Int) (i : Int) : Prop := isAt l i ∧ par l (((aboveL l i).getLast?).getD i) = i
instance (l : List Int) (i : Int) : Decidable (circ l i) := by unfold circ; infer_instance
theorem last_cur {l : List Int} {i : Int} {m : Nat} {p : Int} {out : List Int} (h : UpAt l i m p out) : par l ((out.getLast?).getD i) = upN l i (m + 1) := by
  cases m with
  | zero =>
    have : out = [] := List.eq_nil_of_length_eq_zero h.len
    subst this
    exact (upN_one l i).symm
  | succ m =>
    have h1 := h.eq m (by omega)
    rw [List.getLast?_eq_getElem?, h.len, Nat.add_sub_cancel, h1]
    rfl
/-- where the way up goes on -/
theorem up_all {l : List Int} {i : Int} {m : Nat} {p : Int} (h : UpAt l i m p (aboveL l i)) (hs : stops l i p (aboveL l i)) (hc : upN l i (m + 1) ≠ i ∨ i = -1) : ∀ j, upN l i (j + 1) = -1 ∨ upN l i (j + 1) ∈ aboveL l i := by
  have hst : upN l i (m + 1) = -1 ∨ upN l i (m + 1) ∈ aboveL l i := by
    rw [← h.cur]
    rcases hs with hs | hs | hs
    · exact .inl hs
    · rw [h.cur] at hs
      rcases hc with hc | hc
      · exact absurd hs hc
      · rw [h.cur, hs, hc]; exact .inl rfl
    · exact .inr hs
  intro j
  induction j with
  | zero =>
    cases m with
    | zero => exact hst
    | succ m => exact .inr (List.mem_of_getElem? (h.eq 0 (by omega)))
  | succ j ih =>
    rcases ih with ih | ih
    · left; rw [upN, ih, par_none]
    · obtain ⟨a, ha⟩ := List.mem_iff_getElem?.1 ih
      have ham : a < m := by rw [← h.len]; exact (List.getElem?_eq_some_iff.1 ha).1
      rw [h.eq a ham] at ha
      have e : upN l i (j + 1 + 1) = upN l i (a + 1 + 1) := by
        show par l (upN l i (j + 1)) = par l (upN l i (a + 1))
        rw [Option.some.inj ha]
      rw [e]
      by_cases ham2 : a + 1 < m
      · exact .inr (List.mem_of_getElem? (h.eq (a + 1) ham2))
      · have : a + 1 = m := by omega
        rw [this]; exact hst
theorem mem_above_up {l : List Int} {i : Int} {x : Int} (hx : x ∈ aboveL l i) : ∃ j, 1 ≤ j ∧ j ≤ l.length ∧ upN l i j = x := by
  obtain ⟨m, p, h, _⟩ := up_end l i
  obtain ⟨a, ha⟩ := List.mem_iff_getElem?.1 hx
  have ham : a < m := by rw [← h.len]; exact (List.getElem?_eq_some_iff.1 ha).1
  rw [h.eq a ham] at ha
  exact ⟨a + 1, by omega, by have := h.room; omega, Option.some.inj ha⟩
theorem circ_iff (l : List Int) (i : Int) (hi : isAt l i) : circ l i ↔ ∃ j, 1 ≤ j ∧ j ≤ l.length ∧ upN l i j = i := by
  obtain ⟨m, p, h, hs⟩ := up_end l i
  unfold circ
  rw [last_cur h]
  refine ⟨fun hh => ⟨m + 1, by omega, ?_, hh.2⟩, fun ⟨j, h1, h2, h3⟩ => ⟨hi, ?_⟩⟩
  · have hnd : (i :: aboveL l i).Nodup := List.nodup_cons.2 ⟨h.not, h.nodup⟩
    have := nodup_len l.length _ hnd (fun x hx => by
      rcases List.mem_cons.1 hx with rfl | hx
      · exact hi
      · exact h.at_ x hx)
    simp [h.len] at this
    omega
  · by_cases hc : upN l i (m + 1) = i
    · exact hc
    · have := up_all h hs (.inl hc) (j - 1)
      rw [show j - 1 + 1 = j from by omega, h3] at this
      rcases this with this | this
      · have := hi.1; omega
      · exact absurd this h.not

def circleL (l : List Int) : Int := (((List.range l.length).find? fun (i : Nat) => decide (circ l (i : Int))).map fun (i : Nat) => (i : Int)).getD (-1)
def belowL (l : List Int) (i : Int) : List Int := if isAt l i then (((List.range l.length).filter fun (k : Nat) => decide ((k : Int) ≠ i ∧ i ∈ aboveL l (k : Int))).map fun (k : Nat) => (k : Int)) else []
def isL (l : List Int) (a i : Int) : Prop := ∃ j, 1 ≤ j ∧ j ≤ l.length ∧ 0 ≤ a ∧ upN l i j = a
end
section
open Go.ChangeShapes Go.WideShapes Go.ChangeAt Go.RowKit

theorem lawOwn : ownKnob Try.prog.godebug = none := by kernel_rfl
theorem lawLaid : laidOutB Try.prog = true := by kernel_rfl
theorem lawBool : Try.prog.underlying 4 = some .bool := Try.underlying4

theorem trodAll_below {H : Type} {enc : TypeId × Value → H} {P : Program} (hl : laidOutB P = true) {W W' : World} (hb : Below W.heap.size W W') (sp : Nat → Bool) :
    ∀ {ts : List TypeId} {vs : List Value} {ds : List (DataW H)} {ps : List MemPlace}, (ts.all fun t => P.readableRec t && decide (t < P.types.size)) = true →
      DataW.TrodAll enc P W 0 (fun _ => true) true ts vs ds ps → (∀ x ∈ ps, x.block < W.heap.size) → (∀ p ∈ ps, sp p.block = true) → DataW.TrodAll enc P W' 0 sp true ts vs ds ps
  | [], [], [], _, _, h, _, _ => h
  | t :: ts, v :: vs, d :: ds, ps, ht, h, hlt, hs => by
    obtain ⟨p, q, h1, h2, rfl⟩ := h
    simp only [List.all_cons, Bool.and_eq_true, decide_eq_true_eq] at ht
    refine ⟨p, q, WideElems.Trod_stays hl ht.1.1 ht.1.2 h1 (fun x hx => hb.same (hlt x (List.mem_append.2 (.inl hx)))) (fun x hx => hs x (List.mem_append.2 (.inl hx))), ?_, rfl⟩
    exact trodAll_below hl hb sp (by simpa using ht.2) h2 (fun x hx => hlt x (List.mem_append.2 (.inr hx))) (fun x hx => hs x (List.mem_append.2 (.inr hx)))
  | [], [], _ :: _, _, _, h, _, _ => h.elim
  | [], _ :: _, _, _, _, h, _, _ => h.elim
  | _ :: _, [], _, _, _, h, _, _ => h.elim
  | _ :: _, _ :: _, [], _, _, h, _, _ => h.elim

theorem law_calls {H : Type} {enc : TypeId × Value → H} {f : Func} {s : ChangeSpec} {fid : FuncId} {W : World} {args : Array Value} {ds gs : List (DataW H)} {before : List MemPlace}
    (hts : (f.params.toList.all fun t => Try.prog.readableRec t && decide (t < Try.prog.types.size)) = true) (hrt : f.resultTypes = #[4]) (hsv : s.vars = [])
    (hW : DataW.Whole enc Try.prog f.params.toList s.vars false W args.toList ds gs before)
    (hfn : ∀ gs', gs' = [] → s.fn H (ds ++ gs') = { results := [.lit (.bool true)], args := ds })
    (hc : Calls Try.prog fid args W fun e W' => e = .returned (.bool true) ∧ Below W.heap.size W W') :
    Calls Try.prog fid args W fun e W' => ∃ v, e = .returned v ∧ s.post enc Try.prog f false true false false W args v W' := by
  refine hc.mono fun e W' ⟨he, hb⟩ => ⟨_, he, ?_⟩
  have hW' := hW
  obtain ⟨p, q, hA, hV, rfl, hfz, hnd⟩ := hW
  rw [hsv] at hV
  obtain ⟨rfl, rfl⟩ := trodVars_none hV
  have hlt : ∀ x ∈ p, x.block < W.heap.size := fun x hx => hW'.lt x (List.mem_append.2 (.inl hx))
  have e1 := hfn [] rfl
  refine ⟨ds, [], p ++ [], [], p, [], hW', ?_, ?_, ?_, hb.frame _, fun h => by cases h⟩
  · rw [e1, hrt]
    exact trodAll_mk1 (shut_bool lawBool true)
  · rw [e1]
    exact trodAll_below lawLaid hb _ hts hA hlt (fun x hx => by simpa using hlt x hx)
  · rw [e1, hsv]
    rfl
end
section
open Go.RowKit

/-- a slice of ints reads as a list -/
def RI (w : World) (v : Value) (l : List Int) : Prop := (sliceR (intR .i64)).one w (fun b => b < w.heap.size) v l
theorem RI.below {w w' : World} {v : Value} {l : List Int} (h : RI w v l) (hb : Below w.heap.size w w') : RI w' v l := slice_mono (slice_below h hb fun b h => h) fun b h => Nat.lt_of_lt_of_le h hb.size
theorem RI.form {w : World} {v : Value} {l : List Int} (h : RI w v l) : ∃ A c, v = .slice A l.length c ∧ l.length ≤ c := by
  obtain ⟨A, c, h1, h2, _⟩ := slice_form h
  exact ⟨A, c, h1, h2⟩
theorem RI.at_ {w : World} {A : Option Addr} {n c : Nat} {l : List Int} (h : RI w (.slice A n c) l) {k : Nat} (hk : k < l.length) :
    ∃ b o, A = some ⟨b, o, none⟩ ∧ w.cell? ⟨b, o + k, none⟩ = some (.int .i64 (l.getD k 0)) ∧ -9223372036854775808 ≤ l.getD k 0 ∧ l.getD k 0 ≤ 9223372036854775807 := by
  obtain ⟨b, o, rfl, hb, _⟩ := slice_some h (by omega)
  have := ints_at h hk
  rw [List.getD, List.getElem?_eq_getElem hk]
  exact ⟨b, o, rfl, this⟩
theorem RI.own {w : World} {base : Nat} {v : Value} {n : Nat} {l : List Int} (h : w.ownsRow base 3 1 v n (l.map (Value.int .i64))) (hx : ∀ x ∈ l, -9223372036854775808 ≤ x ∧ x ≤ 9223372036854775807) : RI w v l :=
  slice_mono (slice_own1 (r := intR .i64) _ h rfl fun a ha => ⟨rfl, wf_i64_mk (hx a ha).1 (hx a ha).2⟩) fun b h => h.2

theorem intInfo : (Try.prog.info? 3).map (fun i => (i.zero, i.size, i.bytes)) = some (some (.int .i64 0), 1, 8) := by kernel_rfl
theorem one_new (w : World) (n : Int) (t : TypeId) : ∀ j u, [Value.int .i64 n][j]? = some u → (w.alloc (.cells #[.int .i64 n] t)).cell? ((⟨w.heap.size, 0, none⟩ : Addr).add j) = some u := cells_new w [.int .i64 n] t
theorem one_one (n : Int) : ∀ u ∈ [Value.int .i64 n], u.oneCell' = true := by intro u hu; simp at hu; subst hu; rfl

set_option maxHeartbeats 400000 in
theorem index_any (l : List Int) (v : Value) (x : Int) (w : World) (hl : l.length ≤ 4294967296) (hv : RI w v l) :
    Calls Try.prog 88 #[v, .int .i64 x] w fun e w' => e = .returned (.int .i64 (((l.findIdx? (· == x)).map fun (n : Nat) => (n : Int)).getD (-1))) ∧ w = w' := by
  obtain ⟨A, c, rfl, hc⟩ := hv.form
  go_enter Try.func88, Try.ntmps88
  go_wp2_with fail
  go_loop [8] (fun i => ∃ k : Nat, k ≤ l.length ∧ i = .int .i64 (k : Int) ∧ ∀ y ∈ l.take k, ¬ y = x) (fun i => l.length - (intOf i).toNat)
  case atStart => exact ⟨0, Nat.zero_le _, rfl, fun y hy => by simp at hy⟩
  case round =>
    obtain ⟨k, hk, rfl, hno⟩ := hrel
    have Hno := hide hno
    clear hno
    by_cases hlt : k < l.length
    · obtain ⟨b, o, rfl, hcell, hb1, hb2⟩ := hv.at_ hlt
      have htk := hide (List.take_succ_eq_append_getElem hlt)
      have hgk : l.getD k 0 = l[k] := by rw [List.getD, List.getElem?_eq_getElem hlt]; rfl
      rw [hgk] at hcell
      have hfi : (∀ y ∈ l.take k, ¬ y = x) → l[k] = x → l.findIdx? (· == x) = some k := by
        intro h1 h2
        rw [List.findIdx?_eq_some_iff_getElem]
        refine ⟨hlt, by simpa using h2, fun j hj => ?_⟩
        have := h1 l[j] (List.mem_take_iff_getElem.2 ⟨j, by omega, rfl⟩)
        simpa using this
      have Hfi := hide hfi
      clear hgk hfi
      generalize l[k] = y at *
      by_cases hy : y = x
      · have h1 : (x == y) = true := by simp [hy]
        have HE := hide (Hfi.out Hno.out hy)
        clear hy
        go_wp2_with fail
        go_ret
        rw [HE.out]
        exact ⟨rfl, rfl⟩
      · have h1 : (x == y) = false := by simp; exact fun e => hy e.symm
        go_wp2_with fail
        go_round
        case rel =>
          refine ⟨k + 1, by omega, by go_num, fun z hz => ?_⟩
          rw [htk.out] at hz
          rcases List.mem_append.1 hz with hz | hz
          · exact Hno.out z hz
          · simp at hz; subst hz; exact hy
        case measure => simp [intOf]; omega
    · obtain rfl : k = l.length := by omega
      go_wp2_with fail
      go_ret
      have : l.findIdx? (· == x) = none := by
        rw [List.findIdx?_eq_none_iff]
        intro y hy
        have := Hno.out y (by rwa [List.take_length])
        simpa using this
      rw [this]
      exact ⟨rfl, rfl⟩

set_option maxHeartbeats 400000 in
theorem contains_any (l : List Int) (v : Value) (x : Int) (w : World) (hl : l.length ≤ 4294967296) (hv : RI w v l) :
    Calls Try.prog 78 #[v, .int .i64 x] w fun e w' => e = .returned (.bool (decide (x ∈ l))) ∧ w = w' := by
  have hcase : (∃ n : Nat, l.findIdx? (· == x) = some n ∧ x ∈ l) ∨ (l.findIdx? (· == x) = none ∧ x ∉ l) := by
    cases h : l.findIdx? (· == x) with
    | none =>
      right
      rw [List.findIdx?_eq_none_iff] at h
      exact ⟨rfl, fun hx => by have := h x hx; simp at this⟩
    | some n =>
      left
      rw [List.findIdx?_eq_some_iff_getElem] at h
      obtain ⟨h1, h2, _⟩ := h
      simp at h2
      exact ⟨n, rfl, by rw [← h2]; exact List.getElem_mem _⟩
  have hix := index_any l v x w hl hv
  rcases hcase with ⟨n, h1, h2⟩ | ⟨h1, h2⟩
  · rw [h1] at hix
    have Hix := hide hix
    clear hix h1
    go_enter Try.func78, Try.ntmps78
    go_wp2_with (go_at_call 88; refine Hix.out.mono ?_; rintro e w' ⟨rfl, rfl⟩; simp only [Option.map_some, Option.getD_some])
    go_ret
    exact ⟨by simp [h2], rfl⟩
  · rw [h1] at hix
    have Hix := hide hix
    clear hix h1
    go_enter Try.func78, Try.ntmps78
    go_wp2_with (go_at_call 88; refine Hix.out.mono ?_; rintro e w' ⟨rfl, rfl⟩; simp only [Option.map_none, Option.getD_none])
    go_ret
    exact ⟨by simp [h2], rfl⟩

/-- what nest.in hands back -/
def InPost (l : List Int) (i : Int) (w : World) (e : Ending) (w' : World) : Prop := (par l i = -1 ∧ e = .returned (.tuple #[.int .i64 0, .bool false]) ∨ isAt l (par l i) ∧ e = .returned (.tuple #[.int .i64 (par l i), .bool true])) ∧ w = w'
set_option maxHeartbeats 400000 in
theorem in_any (l : List Int) (v : Value) (i : Int) (w : World) (hl : l.length ≤ 4294967296) (hv : RI w v l) :
    Calls Try.prog 89 #[v, .int .i64 i] w (InPost l i w) := by
  obtain ⟨A, c, rfl, hc⟩ := hv.form
  by_cases h1 : isAt l i
  · obtain ⟨h1a, h1b⟩ := h1
    obtain ⟨k, rfl⟩ := Int.eq_ofNat_of_zero_le h1a
    have hk : k < l.length := by omega
    obtain ⟨b, o, rfl, hcell, hb1, hb2⟩ := hv.at_ hk
    have hp : par l (k : Int) = norm l (l.getD k 0) := by unfold par; rw [if_pos ⟨h1a, h1b⟩]; simp
    have hn := norm_cases l (l.getD k 0)
    rw [← hp] at hn
    have Hn := hide hn
    clear hn hp
    generalize l.getD k 0 = y at *
    by_cases h2 : 0 ≤ y
    · by_cases h3 : y < (l.length : Int)
      · have e : par l k = y := by
          rcases Hn.out with ⟨_, e⟩ | ⟨h, _⟩
          · exact e
          · exact absurd ⟨h2, h3⟩ h
        have E := hide e
        clear e
        go_enter Try.func89, Try.ntmps89
        go_wp2_with fail
        go_ret2
        refine ⟨.inr ⟨?_, ?_⟩, rfl⟩
        · rw [E.out]; exact ⟨h2, h3⟩
        · rw [E.out]; rfl
      · have e : par l k = -1 := by
          rcases Hn.out with ⟨h, _⟩ | ⟨_, e⟩
          · exact absurd h.2 h3
          · exact e
        have E := hide e
        clear e
        go_enter Try.func89, Try.ntmps89
        go_wp2_with fail
        go_ret2
        exact ⟨.inl ⟨E.out, rfl⟩, rfl⟩
    · have e : par l k = -1 := by
        rcases Hn.out with ⟨h, _⟩ | ⟨_, e⟩
        · exact absurd h.1 h2
        · exact e
      have E := hide e
      clear e
      go_enter Try.func89, Try.ntmps89
      go_wp2_with fail
      go_ret2
      exact ⟨.inl ⟨E.out, rfl⟩, rfl⟩
  · have e : par l i = -1 := by unfold par; rw [if_neg h1]
    have E := hide e
    clear e
    by_cases h2 : 0 ≤ i
    · have h3 : (l.length : Int) ≤ i := by
        unfold isAt at h1; omega
      go_enter Try.func89, Try.ntmps89
      go_wp2_with fail
      go_ret2
      exact ⟨.inl ⟨E.out, rfl⟩, rfl⟩
    · go_enter Try.func89, Try.ntmps89
      go_wp2_with fail
      go_ret2
      exact ⟨.inl ⟨E.out, rfl⟩, rfl⟩


/-- what a function that makes a list of ints hands back -/
def ListPost (L : List Int) (w : World) (e : Ending) (w' : World) : Prop := ∃ v, e = .returned v ∧ w'.ownsRow w.heap.size 3 1 v L.length (L.map (Value.int .i64)) ∧ Below w.heap.size w w'

theorem in_no (l : List Int) (v : Value) (i : Int) (w : World) (hl : l.length ≤ 4294967296) (hv : RI w v l) (h : par l i = -1) :
    Calls Try.prog 89 #[v, .int .i64 i] w fun e w' => e = .returned (.tuple #[.int .i64 0, .bool false]) ∧ w = w' :=
  (in_any l v i w hl hv).mono fun e w' ⟨hh, hw⟩ => by
    rcases hh with ⟨_, he⟩ | ⟨hat, _⟩
    · exact ⟨he, hw⟩
    · rw [h] at hat; exact absurd hat.1 (by omega)
theorem in_yes (l : List Int) (v : Value) (i y : Int) (w : World) (hl : l.length ≤ 4294967296) (hv : RI w v l) (h : par l i = y) (hy : isAt l y) :
    Calls Try.prog 89 #[v, .int .i64 i] w fun e w' => e = .returned (.tuple #[.int .i64 y, .bool true]) ∧ w = w' :=
  (in_any l v i w hl hv).mono fun e w' ⟨hh, hw⟩ => by
    rcases hh with ⟨hp, _⟩ | ⟨hat, he⟩
    · rw [h] at hp; exact absurd hy.1 (by omega)
    · rw [h] at he; exact ⟨he, hw⟩

def lenOf : Value → Nat | .slice _ n _ => n | _ => 0
/-- a scope that is gone through from a label again and again: what holds at the label suffices -/
theorem wp_scope_label {P : Program} {a : Act} {w : World} {Q : Exit → Act → World → Prop} {c X : Code} (l : Nat) (J : Act → World → Prop) (μ : Act → World → Nat) (hf : findLabel c l = some (Code.skip.seq X))
    (pass : ∀ a w, J a w → X.wp P (Exit.jump l (fun a' w' => J a' w' ∧ μ a' w' < μ a w) Q) a w)
    (first : (∀ a w, J a w → X.wp P (Exit.jump l J Q) a w) → c.wp P (Exit.jump l J Q) a w) : (Code.scope c).wp P Q a w := by
  refine wp_scope_jumps l J μ hf (first fun a w h => wp_mono (pass a w h) ?_) (fun a w h => ?_)
  · intro e a' w' hq
    cases e with
    | goto l' => exact ⟨hq.1, hq.2.1⟩
    | normal => exact hq
    | exit id => exact hq
    | ret => exact hq
    | panic ch => exact hq
    | outgrown => exact hq
  · exact wp_seq (wp_skip (pass a w h))

set_option maxHeartbeats 1000000 in
theorem above_any (l : List Int) (v : Value) (i : Int) (w : World) (hl : l.length ≤ 1073741824) (hv : RI w v l) :
    Calls Try.prog 79 #[v, .int .i64 i] w (ListPost (aboveL l i) w) := by
  obtain ⟨i0, hi0, hz0, hz1, hz2⟩ := info_parts intInfo
  have hl : l.length ≤ 4294967296 := by omega
  obtain ⟨A, c, rfl, hc⟩ := hv.form
  go_enter Try.func79, Try.ntmps79
  go_wp2_with fail
  refine wp_scope_label 0 (fun a' w' => ∃ (m : Nat) (q : Int) (out : List Int) (v' : Value) (u7 u8 u9 u10 u11 u12 u13 u14 u15 u16 u17 u18 u19 u20 u21 u22 u23 u24 u25 u26 u27 u28 u29 u30 u31 u32 u33 : Value),
      a' = { tmps := #[.slice A l.length c, .int .i64 i, undef, undef, .slice none 0 0, v', .int .i64 q, u7, u8, u9, u10, u11, u12, u13, u14, u15, u16, u17, u18, u19, u20, u21, u22, u23, u24, u25, u26, u27, u28, u29, u30, u31, u32, u33], defers := [] } ∧
      UpAt l i m q out ∧ w'.ownsRow w.heap.size 3 1 v' out.length (out.map (Value.int .i64)) ∧ Below w.heap.size w w') (fun a' w' => l.length + 1 - lenOf (a'.tmps.getD 5 undef)) (by rfl) ?_ ?_
  · rintro a' w1 ⟨m, q, out, v', u7, u8, u9, u10, u11, u12, u13, u14, u15, u16, u17, u18, u19, u20, u21, u22, u23, u24, u25, u26, u27, u28, u29, u30, u31, u32, u33, rfl, hup, hown, hb⟩
    have hat := hup.at_
    have hroom := hup.room
    have hlen := hup.len
    have hri : RI w1 v' out := RI.own hown (fun x hx => by have := hat x hx; unfold isAt at this; omega)
    have hl1 : out.length ≤ 4294967296 := by omega
    have hv1 := hv.below hb
    obtain ⟨A', c', rfl, hc'⟩ := hri.form
    have Hstop := hide (hup.stop)
    have Hnext := hide (hup.next)
    have Hlen := hide hlen
    have Hat := hide hat
    clear hat hlen
    rcases par_at l q with hp | hp
    · have hin := in_no l _ q w1 hl hv1 hp
      have Hin := hide hin
      have E := hide (Hstop.out (.inl hp))
      clear hin hp
      go_wp2_with (go_at_call 89; refine Hin.out.mono ?_; rintro e w2 ⟨rfl, rfl⟩)
      simp only [Exit.jump]
      go_ret
      rw [← E.out]
      exact ⟨_, rfl, hown, hb⟩
    · have hin := in_yes l _ q (par l q) w1 hl hv1 rfl hp
      have hpr : 0 ≤ par l q ∧ par l q < (l.length : Int) := hp
      have Hin := hide hin
      have hs1 : par l q = i → out = aboveL l i := fun h => Hstop.out (.inr (.inl h))
      have hs2 : par l q ∈ out → out = aboveL l i := fun h => Hstop.out (.inr (.inr h))
      have hs3 : par l q ≠ i → par l q ∉ out → UpAt l i (m + 1) (par l q) (out ++ [par l q]) ∧ m + 1 ≤ l.length := fun h1 h2 => Hnext.out (fun hh => by
        rcases hh with hh | hh | hh
        · have := hp.1; omega
        · exact h1 hh
        · exact h2 hh)
      have Hs1 := hide hs1
      have Hs2 := hide hs2
      have Hs3 := hide hs3
      clear hin hp hs1 hs2 hs3 Hstop Hnext
      generalize par l q = y at *
      cases h1 : (y == i) with
      | true =>
        have E := hide (Hs1.out (by simpa using h1))
        go_wp2_with (go_at_call 89; refine Hin.out.mono ?_; rintro e w2 ⟨rfl, rfl⟩)
        simp only [Exit.jump]
        go_ret
        rw [← E.out]
        exact ⟨_, rfl, hown, hb⟩
      | false =>
        have hne : y ≠ i := by simpa using h1
        have hcn := contains_any out _ y w1 hl1 hri
        by_cases h2 : y ∈ out
        · rw [show decide (y ∈ out) = true from decide_eq_true h2] at hcn
          have Hcn := hide hcn
          have E := hide (Hs2.out h2)
          clear hcn h2 hne
          go_wp2_with (first
            | (go_at_call 89; refine Hin.out.mono ?_; rintro e w2 ⟨rfl, rfl⟩)
            | (go_at_call 78; refine Hcn.out.mono ?_; rintro e w2 ⟨rfl, rfl⟩))
          simp only [Exit.jump]
          go_ret
          rw [← E.out]
          exact ⟨_, rfl, hown, hb⟩
        · rw [show decide (y ∈ out) = false from decide_eq_false h2] at hcn
          have Hcn := hide hcn
          have E := hide (Hs3.out hne h2)
          clear hcn h2 hne
          have hB := hb.size
          go_wp2_with (first
            | (go_at_call 89; refine Hin.out.mono ?_; rintro e w2 ⟨rfl, rfl⟩)
            | (go_at_call 78; refine Hcn.out.mono ?_; rintro e w2 ⟨rfl, rfl⟩)
            | (at_builtin; refine wpList_append_own _ rfl (.tmp 29) (.tmp 31) 33 rfl w.heap.size 3 i0 _ 1 8 Try.underlying33 hi0 hz0 hz1 hz2 rfl (by omega) _ out.length _ rfl (hown.alloc _) ⟨w1.heap.size, 0, none⟩ 1 1 [.int .i64 y] rfl rfl (one_new _ _ _) (one_one _) (by unfold maxLen; omega) (by omega) (by simp; omega) ?_; intro v2 w2 hown2 hg2 _))
          go_step3
          obtain ⟨e1, e2⟩ := E.out
          have hb2 := (hb.alloc hb.size (.cells #[.int .i64 y] 3)).grown hg2 (by simp; omega) (fun g hg => (hown.lt g hg).1)

          refine ⟨rfl, ⟨m + 1, y, out ++ [y], v2, _, _, _, _, _, _, _, _, _, _, _, _, _, _, _, _, _, _, _, _, _, _, _, _, _, _, _, rfl, e1, ?_, hb2⟩, ?_⟩
          · have := hown2
            rw [List.length_append, List.map_append]
            exact this
          · obtain ⟨A2, c2, rfl, _⟩ := own_form hown2
            show l.length + 1 - (out.length + 1) < l.length + 1 - out.length
            have := Hlen.out
            omega
  · intro hpass
    go_wp2
    go_step3
    rename_i hK
    exact hK _ _ (hpass _ _ ⟨0, i, [], _, _, _, _, _, _, _, _, _, _, _, _, _, _, _, _, _, _, _, _, _, _, _, _, _, _, _, _, rfl, UpAt.start l i, World.ownsRow_nil _ _ _ _, Below.refl _ _⟩)
end
section
open Go.RowKit
theorem rt_ints {w : World} {S : Nat → Prop} {v : Value} {l : List Int} (h : RT w S v (sI l)) (hS : SOk w S) (hl : ∀ x ∈ l, ok64 x) : RI w v l := by
  obtain ⟨A, cap, rfl, hc, hm, _, hA⟩ := h.sl_inv
  refine ⟨A, cap, by simp, by simpa using hc, hm, fun h0 => ?_⟩
  obtain ⟨b, o, rfl, hb, U, hcell, hr, _⟩ := hA (by simpa using h0)
  refine ⟨b, o, rfl, hS b hb, fun i hi => ⟨[.int .i64 l[i]], fun j u hu => ?_, rfl, ?_⟩⟩
  · have h1 : (l.map fun n => [eI n])[i]? = some [eI l[i]] := by simp [hi]
    have h2 := hcell i 0 _ _ h1 rfl
    have h3 := rtc (hr i 0 _ _ h1 rfl)
    cases j with
    | zero =>
      simp at hu
      subst hu
      rw [h3] at h2
      simpa [intR] using h2
    | succ j => simp at hu
  · have := hl _ (List.getElem_mem hi)
    exact wf_i64_mk this.1 this.2
theorem adet_of_list {f : FuncId} {args : List AV} {l : List Int} (he : Enters Try.prog f)
    (h : ∀ (S : Nat → Prop) (w : World) (vs : Array Value), SOk w S → vs.size = args.length → (∀ (j : Nat) (v : Value) (av : AV), vs[j]? = some v → args[j]? = some av → RT w S v av) → Calls Try.prog f vs w (ListPost l w)) : ADet Try.prog f args (own 3 1 (l.map fun n => [eI n])) :=
  ⟨he, fun S w vs h1 h2 h3 => (h S w vs h1 h2 h3).mono fun e w' ⟨v, h4, h5, h6⟩ => by
    have hget : ∀ id o, (own 3 1 (l.map fun n => [eI n])).tab.get id = some o → id = 0 ∧ o = .row 3 1 (l.map fun n => [eI n]) := fun id o ho => by
      simp only [own, ATab.get_cons] at ho
      split at ho
      · cases ho
        exact ⟨by assumption, rfl⟩
      · cases ho
    refine ⟨v, fun _ => v, _, rfl, own_ok .., h4, ⟨belowX h6, fun id o ho => ?_, fun id id' o o' g h7 h8 _ _ => ?_, fun b hb => hb.elim⟩, .osl _ _ fun sz u hk => ?_⟩
    · obtain ⟨_, rfl⟩ := hget id o ho
      refine ⟨fun row hr => ?_, _, by rw [List.length_map]; exact ownsR_of h5, fun x hx => ?_, fun i j row av ha hb => ?_⟩
      · obtain ⟨n, _, rfl⟩ := List.mem_map.1 hr
        rfl
      · obtain ⟨n, _, rfl⟩ := List.mem_map.1 hx
        rfl
      · rw [List.getElem?_map] at ha
        cases hi : l[i]? with
        | none => simp [hi] at ha
        | some n =>
          simp [hi] at ha
          subst ha
          cases j with
          | zero =>
            simp at hb
            subst hb
            exact ⟨.int .i64 n, by simp [hi], .c _⟩
          | succ j => simp at hb
    · rw [(hget id o h7).1, (hget id' o' h8).1]
    · unfold Kx at hk
      cases ho : (own 3 1 (l.map fun n => [eI n])).tab.get 0 with
      | none => simp [ho] at hk
      | some o => simp [ho] at hk; exact hk.2⟩
theorem two_args {vs : Array Value} (h : vs.size = 2) : ∃ a b, vs = #[a, b] := ⟨vs[0], vs[1], by apply Array.ext (by simpa using h); intro i h1 h2; simp at h2; match i with | 0 => rfl | 1 => rfl⟩
theorem gives_tree {r av : AV} {st : ASt} (h : r.ren [] = av) : aGives ⟨r, [], 0⟩ st av := ⟨[], List.nodup_nil, h, trivial⟩
theorem pairs_plain {l : List (Bool × Int)} : ∀ row ∈ l.map eBI, ∀ av ∈ row, av.plain := fun row hr av ha => by
  obtain ⟨n, _, rfl⟩ := List.mem_map.1 hr
  simp at ha
  rcases ha with rfl | rfl <;> trivial
theorem sentryTy : (Try.prog.fieldsOf 88).toList.map (fun f => (f.name, f.type, f.offset)) = [("Mile", 4, 0), ("N", 3, 1)] := by kernel_rfl
theorem sentryBin (op : BinOp) (hop : op = .eql ∨ op = .neq) (a b : Bool × Int) : BinRun Try.prog op 88 (.agg #[.bool a.1, .int .i64 a.2]) (.agg #[.bool b.1, .int .i64 b.2]) (.bool (if op matches .eql then (a.1 == b.1 && a.2 == b.2) else !(a.1 == b.1 && a.2 == b.2))) := by
  have ht := sentryTy
  obtain ⟨f, g, hfs⟩ : ∃ f g, (Try.prog.fieldsOf 88).toList = [f, g] := by
    generalize (Try.prog.fieldsOf 88).toList = l at ht ⊢
    cases l with
    | nil => simp at ht
    | cons f l => cases l with
      | nil => simp at ht
      | cons g l => cases l with
        | nil => exact ⟨f, g, rfl⟩
        | cons h l => simp at ht
  rw [hfs] at ht
  simp only [List.map_cons, List.map_nil, List.cons.injEq, Prod.mk.injEq, and_true] at ht
  obtain ⟨⟨h1, h2, h3⟩, h4, h5, h6⟩ := ht
  refine structRun [(.bool a.1, .bool b.1), (.int .i64 a.2, .int .i64 b.2)] (by kernel_rfl) (by kernel_rfl) (by kernel_rfl) (by rw [hfs]; rfl) (fun k f' p hk hp => ?_) (by simp [cellsEq, cellEq]) hop
  rw [hfs] at hk
  match k, hk, hp with
  | 0, hk, hp =>
    cases hk
    cases hp
    refine ⟨by rw [h1]; decide, ?_, by rw [h3]; rfl, by rw [h3]; rfl⟩
    rw [h2]
    kernel_rfl
  | 1, hk, hp =>
    cases hk
    cases hp
    refine ⟨by rw [h4]; decide, ?_, by rw [h6]; rfl, by rw [h6]; rfl⟩
    rw [h5]
    kernel_rfl
  | k + 2, hk, hp => simp at hk
end
section
open Go.RowKit

/-- steps up, from wherever -/
theorem up_rest (l : List Int) (i : Int) (k d : Nat) (x : Int) (h : upN l i k = norm l x) (hx : ¬ isAt l x) : upN l i (k + d) = -1 :=
  upN_none l i k (by rw [h]; exact ((norm_cases l x).resolve_left fun hh => hx hh.1).2) d

set_option maxHeartbeats 1000000 in
theorem up_any (l : List Int) (v : Value) (i n : Int) (w : World) (hl : l.length ≤ 1073741824) (hn0 : 0 ≤ n) (hn : n ≤ 4294967296) (hv : RI w v l) :
    Calls Try.prog 52 #[v, .int .i64 i, .int .i64 n] w fun e w' => e = .returned (.int .i64 (upN l i n.toNat)) ∧ w = w' := by
  obtain ⟨A, c, rfl, hc⟩ := hv.form
  obtain ⟨N, rfl⟩ := Int.eq_ofNat_of_zero_le hn0
  rw [Int.toNat_natCast]
  go_enter Try.func52, Try.ntmps52
  go_wp2_with fail
  go_loop [1, 7] (fun x j => ∃ (k : Nat) (y : Int), k ≤ N ∧ j = .int .i64 (k : Int) ∧ x = .int .i64 y ∧ upN l i k = norm l y) (fun x j => N - (intOf j).toNat)
  case atStart => exact ⟨0, i, Nat.zero_le _, rfl, rfl, rfl⟩
  case round =>
    obtain ⟨k, y, hk, rfl, rfl, hup⟩ := hrel
    by_cases hlt : k < N
    · by_cases hy : isAt l y
      · obtain ⟨hy1, hy2⟩ := hy
        obtain ⟨z, rfl⟩ := Int.eq_ofNat_of_zero_le hy1
        obtain ⟨b, o, rfl, hcell, hb1, hb2⟩ := hv.at_ (show z < l.length by omega)
        have e : upN l i (k + 1) = norm l (l.getD z 0) := by
          show par l (upN l i k) = _
          rw [hup, par_norm]
          unfold par
          rw [if_pos ⟨hy1, hy2⟩]; simp
        have E := hide e
        clear hup e
        generalize l.getD z 0 = y' at *
        go_wp2_with fail
        go_round
        case rel => exact ⟨k + 1, y', by omega, by go_num, rfl, E.out⟩
        case measure => simp [intOf]; omega
      · have e := up_rest l i k (N - k) y hup hy
        rw [show k + (N - k) = N from by omega] at e
        have E := hide e
        clear e hup
        by_cases h0 : 0 ≤ y
        · have h1 : (l.length : Int) ≤ y := by unfold isAt at hy; omega
          clear hy
          go_wp2_with fail
          go_ret
          rw [E.out]; exact ⟨rfl, rfl⟩
        · clear hy
          go_wp2_with fail
          go_ret
          rw [E.out]; exact ⟨rfl, rfl⟩
    · obtain rfl : k = N := by omega
      by_cases hy : isAt l y
      · have e : upN l i k = y := by rw [hup]; exact ((norm_cases l y).resolve_right fun hh => hh.1 hy).2
        have E := hide e
        clear e hup
        obtain ⟨hy1, hy2⟩ := hy
        go_wp2_with fail
        go_ret
        rw [E.out]; exact ⟨rfl, rfl⟩
      · have e : upN l i k = -1 := by rw [hup]; exact ((norm_cases l y).resolve_left fun hh => hy hh.1).2
        have E := hide e
        clear e hup
        by_cases h0 : 0 ≤ y
        · have h1 : (l.length : Int) ≤ y := by unfold isAt at hy; omega
          clear hy
          go_wp2_with fail
          go_ret
          rw [E.out]; exact ⟨rfl, rfl⟩
        · clear hy
          go_wp2_with fail
          go_ret
          rw [E.out]; exact ⟨rfl, rfl⟩

noncomputable instance (l : List Int) (a i : Int) : Decidable (isL l a i) := Classical.propDecidable _
set_option maxHeartbeats 1000000 in
theorem is_any (l : List Int) (v : Value) (a i : Int) (w : World) (hl : l.length ≤ 1073741824) (hv : RI w v l) :
    Calls Try.prog 36 #[v, .int .i64 a, .int .i64 i] w fun e w' => e = .returned (.bool (decide (isL l a i))) ∧ w = w' := by
  obtain ⟨A, c, rfl, hc⟩ := hv.form
  go_enter Try.func36, Try.ntmps36
  go_wp2_with fail
  go_loop [7] (fun j => ∃ k : Nat, 1 ≤ k ∧ k ≤ l.length + 1 ∧ j = .int .i64 (k : Int) ∧ ∀ m, 1 ≤ m → m < k → ¬ (0 ≤ a ∧ upN l i m = a)) (fun j => l.length + 1 - (intOf j).toNat)
  case atStart => exact ⟨1, Nat.le_refl _, by omega, rfl, fun m h1 h2 => by omega⟩
  case round =>
    obtain ⟨k, hk1, hk, rfl, hno⟩ := hrel
    have Hno := hide hno
    clear hno
    by_cases hlt : k ≤ l.length
    · have hup := up_any l _ i (k : Int) w hl (by omega) (by omega) hv
      rw [Int.toNat_natCast] at hup
      have hyes : 0 ≤ a → upN l i k = a → decide (isL l a i) = true := fun h1 h2 => decide_eq_true ⟨k, hk1, hlt, h1, h2⟩
      have hnext : ¬ (0 ≤ a ∧ upN l i k = a) → ∀ m, 1 ≤ m → m < k + 1 → ¬ (0 ≤ a ∧ upN l i m = a) := fun h m h1 h2 => by
        by_cases e : m = k
        · subst e; exact h
        · exact Hno.out m h1 (by omega)
      have Hup := hide hup
      have Hyes := hide hyes
      have Hnext := hide hnext
      clear hup hyes hnext Hno
      generalize upN l i k = y at *
      by_cases h0 : 0 ≤ a
      · by_cases h1 : y = a
        · have h2 : (y == a) = true := by simpa using h1
          have E := hide (Hyes.out h0 h1)
          clear h1
          go_wp2_with (go_at_call 52; refine Hup.out.mono ?_; rintro e w' ⟨rfl, rfl⟩)
          go_ret
          rw [E.out]; exact ⟨rfl, rfl⟩
        · have h2 : (y == a) = false := by simpa using h1
          have E := hide (Hnext.out (fun hh => h1 hh.2))
          clear h1
          go_wp2_with (go_at_call 52; refine Hup.out.mono ?_; rintro e w' ⟨rfl, rfl⟩)
          go_round
          case rel => exact ⟨k + 1, by omega, by omega, by go_num, E.out⟩
          case measure => simp [intOf]; omega
      · have E := hide (Hnext.out (fun hh => h0 hh.1))
        go_wp2_with fail
        go_round
        case rel => exact ⟨k + 1, by omega, by omega, by go_num, E.out⟩
        case measure => simp [intOf]; omega
    · have e : decide (isL l a i) = false := by
        refine decide_eq_false fun ⟨m, h1, h2, h3, h4⟩ => Hno.out m h1 (by omega) ⟨h3, h4⟩
      have E := hide e
      clear e
      go_wp2_with fail
      go_ret
      rw [E.out]; exact ⟨rfl, rfl⟩
end
section
open Go.RowKit

def fl (p : Nat → Bool) (k : Nat) : List Int := ((List.range k).filter p).map fun (n : Nat) => (n : Int)
theorem fl_yes (p : Nat → Bool) (k : Nat) (h : p k = true) : fl p (k + 1) = fl p k ++ [(k : Int)] := by simp [fl, List.range_succ, h]
theorem fl_no (p : Nat → Bool) (k : Nat) (h : p k = false) : fl p (k + 1) = fl p k := by simp [fl, List.range_succ, h]
theorem fl_len (p : Nat → Bool) (k : Nat) : (fl p k).length ≤ k := by
  have := List.length_filter_le p (List.range k)
  simpa [fl] using this
theorem above_at (l : List Int) (i : Int) : ∀ x ∈ aboveL l i, isAt l x := by
  obtain ⟨m, p, h, _⟩ := up_end l i
  exact h.at_
theorem above_len (l : List Int) (i : Int) : (aboveL l i).length ≤ l.length := by
  obtain ⟨m, p, h, _⟩ := up_end l i
  rw [h.len]; exact h.room
theorem RI.list {w : World} {base : Nat} {v : Value} {n : Nat} {l L : List Int} (h : w.ownsRow base 3 1 v n (L.map (Value.int .i64))) (hx : ∀ x ∈ L, isAt l x) (hl : l.length ≤ 1073741824) : RI w v L :=
  RI.own h fun x hh => by have := hx x hh; unfold isAt at this; omega
end
section
open Go.RowKit

/-- one round's end of a loop that gathers places -/
theorem fl_rel {p : Nat → Bool} {k : Nat} {w wr : World} {v v2 : Value} {w1 w2 : World} (h : p k = true) (hb : Below w.heap.size w wr) (hb1 : Below wr.heap.size wr w1)
    (hown : w1.ownsRow w.heap.size 3 1 v (fl p k).length ((fl p k).map (Value.int .i64)))
    (hown2 : w2.ownsRow w.heap.size 3 1 v2 ((fl p k).length + 1) ((fl p k).map (Value.int .i64) ++ [Value.int .i64 (k : Int)])) (hg2 : (w1.alloc (.cells #[.int .i64 (k : Int)] 3)).grownBy w2 v.ownBlock) :
    w2.ownsRow w.heap.size 3 1 v2 (fl p (k + 1)).length ((fl p (k + 1)).map (Value.int .i64)) ∧ Below w.heap.size w w2 := by
  have hb0 := hb.trans (hb1.mono hb.size)
  refine ⟨?_, (hb0.alloc hb0.size _).grown hg2 (by have := hb0.size; simp; omega) (fun g hg => (hown.lt g hg).1)⟩
  rw [fl_yes p k h, List.length_append, List.map_append]
  exact hown2

set_option maxHeartbeats 1000000 in
set_option maxRecDepth 100000 in
theorem below_any (l : List Int) (v : Value) (i : Int) (w : World) (hl : l.length ≤ 1073741824) (hv : RI w v l) :
    Calls Try.prog 63 #[v, .int .i64 i] w (ListPost (belowL l i) w) := by
  obtain ⟨i0, hi0, hz0, hz1, hz2⟩ := info_parts intInfo
  obtain ⟨A, c, rfl, hc⟩ := hv.form
  by_cases hi : isAt l i
  · obtain ⟨p, hp⟩ : ∃ p : Nat → Bool, p = fun (k : Nat) => decide ((k : Int) ≠ i ∧ i ∈ aboveL l (k : Int)) := ⟨_, rfl⟩
    have e : belowL l i = fl p l.length := by unfold belowL; rw [if_pos hi, hp]; rfl
    rw [e]
    have Hp := hide hp
    clear hp e
    obtain ⟨hi1, hi2⟩ := hi
    go_enter Try.func63, Try.ntmps63
    go_wp2_with fail
    go_loopw [5, 18] (fun u j wr => ∃ k : Nat, k ≤ l.length ∧ j = .int .i64 (k : Int) ∧ wr.ownsRow w.heap.size 3 1 u (fl p k).length ((fl p k).map (Value.int .i64)) ∧ Below w.heap.size w wr) (fun u j wr => l.length - (intOf j).toNat)
    case atStart => exact ⟨0, Nat.zero_le _, rfl, World.ownsRow_nil _ _ _ _, Below.refl _ _⟩
    case round =>
      obtain ⟨k, hk, rfl, hown, hb⟩ := hrel
      have hfl := fl_len p k
      by_cases hlt : k < l.length
      · have hv1 := hv.below hb
        by_cases hki : (k : Int) = i
        · have h1 : ((k : Int) != i) = false := by simp [hki]
          have hpk : p k = false := by rw [Hp.out]; simp [hki]
          have E := hide (fl_no p k hpk)
          clear hki hpk
          go_wp2_with fail
          go_roundw
          case rel => exact ⟨k + 1, by omega, by go_num, by rw [E.out]; exact hown, hb⟩
          case measure => simp [intOf]; omega
        · have h1 : ((k : Int) != i) = true := by simp [hki]
          have ha := above_any l _ (k : Int) wr hl hv1
          have hab := above_at l (k : Int)
          have hal := above_len l (k : Int)
          have hpk : p k = decide (i ∈ aboveL l (k : Int)) := by rw [Hp.out]; simp [hki]
          generalize aboveL l (k : Int) = L at *
          have Ha := hide ha
          have Hab := hide hab
          have Hpk := hide hpk
          clear ha hab hpk hki
          by_cases hm : i ∈ L
          · have hpk : p k = true := by rw [Hpk.out]; exact decide_eq_true hm
            have HP := hide hpk
            have hd := decide_eq_true hm
            clear hpk hm
            have HD := hide hd
            clear hd
            go_wp2_with fail
            refine Ha.out.mono ?_
            rintro e w1 ⟨v1, rfl, hown1, hb1⟩
            have hri := RI.list hown1 Hab.out hl
            have hcn := contains_any L v1 i w1 (by omega) hri
            rw [HD.out] at hcn
            have Hcn := hide hcn
            have hownk := own_below' hown hb1
            have hb0 := hb.trans (hb1.mono hb.size)
            clear hcn hown
            obtain ⟨A', c', rfl, hc'⟩ := own_form hownk
            go_wp2_with (first
              | (go_at_call 78; refine Hcn.out.mono ?_; rintro e w2 ⟨rfl, rfl⟩)
              | (at_builtin; refine wpList_append_own _ rfl (.tmp 31) (.tmp 33) 33 rfl w.heap.size 3 i0 _ 1 8 Try.underlying33 hi0 hz0 hz1 hz2 rfl (by omega) _ (fl p k).length _ rfl (hownk.alloc _) ⟨w1.heap.size, 0, none⟩ 1 1 [.int .i64 (k : Int)] rfl rfl (one_new _ _ _) (one_one _) (by unfold maxLen; omega) (by omega) (by have := hb0.size; simp; omega) ?_; intro v2 w2 hown2 hg2 _))
            go_roundw
            case rel => exact ⟨k + 1, by omega, by go_num, fl_rel HP.out hb hb1 hownk hown2 hg2⟩
            case measure => simp [intOf]; omega
          · have hpk : p k = false := by rw [Hpk.out]; exact decide_eq_false hm
            have E := hide (fl_no p k hpk)
            have HD := hide (decide_eq_false hm)
            clear hpk hm
            go_wp2_with fail
            refine Ha.out.mono ?_
            rintro e w1 ⟨v1, rfl, hown1, hb1⟩
            have hri := RI.list hown1 Hab.out hl
            have hcn := contains_any L v1 i w1 (by omega) hri
            rw [HD.out] at hcn
            have Hcn := hide hcn
            have hownk := own_below' hown hb1
            have hb0 := hb.trans (hb1.mono hb.size)
            clear hcn hown
            go_wp2_with (go_at_call 78; refine Hcn.out.mono ?_; rintro e w2 ⟨rfl, rfl⟩)
            go_roundw
            case rel => exact ⟨k + 1, by omega, by go_num, by rw [E.out]; exact hownk, hb0⟩
            case measure => simp [intOf]; omega
      · obtain rfl : k = l.length := by omega
        go_wp2_with fail
        go_ret
        exact ⟨_, rfl, hown, hb⟩
  · have e : belowL l i = [] := by unfold belowL; rw [if_neg hi]
    rw [e]
    clear e
    by_cases h0 : 0 ≤ i
    · have h1 : (l.length : Int) ≤ i := by unfold isAt at hi; omega
      go_enter Try.func63, Try.ntmps63
      go_wp2_with fail
      go_ret
      exact ⟨_, rfl, World.ownsRow_nil _ _ _ _, Below.refl _ _⟩
    · go_enter Try.func63, Try.ntmps63
      go_wp2_with fail
      go_ret
      exact ⟨_, rfl, World.ownsRow_nil _ _ _ _, Below.refl _ _⟩

/-- the first place in a circle, told place by place -/
theorem circle_yes (l : List Int) (k : Nat) (hk : k < l.length) (hno : ∀ j, j < k → ¬ circ l (j : Int)) (hy : circ l (k : Int)) : circleL l = (k : Int) := by
  unfold circleL
  have : (List.range l.length).find? (fun (i : Nat) => decide (circ l (i : Int))) = some k := by
    rw [List.find?_range_eq_some]
    exact ⟨by simpa using hy, by simpa using hk, fun j hj => by simpa using hno j hj⟩
  rw [this]; rfl
theorem circle_no (l : List Int) (hno : ∀ j, j < l.length → ¬ circ l (j : Int)) : circleL l = -1 := by
  unfold circleL
  have : (List.range l.length).find? (fun (i : Nat) => decide (circ l (i : Int))) = none := by
    rw [List.find?_eq_none]
    intro j hj
    simpa using hno j (by simpa using hj)
  rw [this]; rfl

set_option maxHeartbeats 1000000 in
theorem refCircle_any (l : List Int) (v : Value) (w : World) (hl : l.length ≤ 1073741824) (hv : RI w v l) :
    Calls Try.prog 16 #[v] w fun e w' => e = .returned (.int .i64 (circleL l)) ∧ Below w.heap.size w w' := by
  obtain ⟨A, c, rfl, hc⟩ := hv.form
  go_enter Try.func16, Try.ntmps16
  go_wp2_with fail
  go_loop [3] (fun j => ∃ k : Nat, k ≤ l.length ∧ j = .int .i64 (k : Int) ∧ ∀ m, m < k → ¬ circ l (m : Int)) (fun j => l.length - (intOf j).toNat)
  case atStart => exact ⟨0, Nat.zero_le _, rfl, fun m hm => by omega⟩
  case round =>
    obtain ⟨k, hk, rfl, hno⟩ := hrel
    have Hno := hide hno
    clear hno
    by_cases hlt : k < l.length
    · have ha := is_any l _ (k : Int) (k : Int) w hl hv
      have hci := circ_iff l (k : Int) ⟨by omega, by omega⟩
      have e : decide (isL l (k : Int) (k : Int)) = decide (circ l (k : Int)) := by
        refine decide_eq_decide.2 ⟨fun ⟨j, h1, h2, _, h3⟩ => hci.2 ⟨j, h1, h2, h3⟩, fun h => ?_⟩
        obtain ⟨j, h1, h2, h3⟩ := hci.1 h
        exact ⟨j, h1, h2, by omega, h3⟩
      rw [e] at ha
      by_cases hy : circ l (k : Int)
      · rw [decide_eq_true hy] at ha
        have Ha := hide ha
        have E := hide (circle_yes l k hlt Hno.out hy)
        clear ha e hci hy
        go_wp2_with (go_at_call 36; refine Ha.out.mono ?_; rintro e w2 ⟨rfl, rfl⟩)
        go_ret
        rw [E.out]
        exact ⟨rfl, Below.refl _ _⟩
      · rw [decide_eq_false hy] at ha
        have Ha := hide ha
        have Hy := hide hy
        clear ha e hci hy
        go_wp2_with (go_at_call 36; refine Ha.out.mono ?_; rintro e w2 ⟨rfl, rfl⟩)
        go_round
        case rel =>
          refine ⟨k + 1, by omega, by go_num, fun m hm => ?_⟩
          by_cases e : m = k
          · subst e; exact Hy.out
          · exact Hno.out m (by omega)
        case measure => simp [intOf]; omega
    · obtain rfl : k = l.length := by omega
      have E := hide (circle_no l Hno.out)
      go_wp2_with fail
      go_ret
      rw [E.out]
      exact ⟨rfl, Below.refl _ _⟩
end
section
/-- without a circle: the way up from a place ends at a root -/
theorem no_circle_stop {l : List Int} (hn : ∀ k : Nat, k < l.length → ¬ circ l (k : Int)) {i : Int} (hi : isAt l i) {m : Nat} {p : Int} (h : UpAt l i m p (aboveL l i)) (hs : stops l i p (aboveL l i)) : upN l i (m + 1) = -1 := by
  have hnc : ∀ x, isAt l x → ∀ j, 1 ≤ j → j ≤ l.length → upN l x j ≠ x := by
    intro x hx j h1 h2 h3
    obtain ⟨n, rfl⟩ := Int.eq_ofNat_of_zero_le hx.1
    have hc := (circ_iff l n hx).2 ⟨j, h1, h2, h3⟩
    exact hn n (by have := hx.2; omega) hc
  rw [← h.cur]
  rcases hs with hs | hs | hs
  · exact hs
  · exfalso
    have hnd : (i :: aboveL l i).Nodup := List.nodup_cons.2 ⟨h.not, h.nodup⟩
    have hlen := nodup_len l.length _ hnd (fun x hx => by
      rcases List.mem_cons.1 hx with rfl | hx
      · exact hi
      · exact h.at_ x hx)
    simp [h.len] at hlen
    exact hnc i hi (m + 1) (by omega) hlen (by rw [← h.cur]; exact hs)
  · exfalso
    obtain ⟨a, ha⟩ := List.mem_iff_getElem?.1 hs
    have ham : a < m := by rw [← h.len]; exact (List.getElem?_eq_some_iff.1 ha).1
    rw [h.eq a ham, h.cur] at ha
    have ha := Option.some.inj ha
    have hat : isAt l (upN l i (a + 1)) := h.at_ _ (List.mem_of_getElem? (h.eq a ham))
    have sh : ∀ d, upN l (upN l i (a + 1)) d = upN l i (a + 1 + d) := by
      intro d
      induction d with
      | zero => exact ((norm_cases l _).resolve_right fun hh => hh.1 hat).2
      | succ d ih => show par l _ = par l _; rw [ih]; rfl
    refine hnc _ hat (m - a) (by omega) (by have := h.room; omega) ?_
    rw [sh, ha]
    congr 1
    omega

theorem circle_none (l : List Int) (h : circleL l < 0) : ∀ k : Nat, k < l.length → ¬ circ l (k : Int) := by
  intro k hk hc
  unfold circleL at h
  cases hf : (List.range l.length).find? (fun (i : Nat) => decide (circ l (i : Int))) with
  | none =>
    rw [List.find?_eq_none] at hf
    have := hf k (by simpa using hk)
    simp [hc] at this
  | some n =>
    rw [hf] at h
    simp at h
    omega
theorem both_ways (l : List Int) (i k : Int) (hi : isAt l i) (hk : isAt l k) : (i ∈ aboveL l k) ↔ (k ∈ belowL l i) := by
  obtain ⟨n, rfl⟩ := Int.eq_ofNat_of_zero_le hk.1
  unfold belowL
  rw [if_pos hi]
  simp only [List.mem_map, List.mem_filter, List.mem_range, decide_eq_true_eq]
  refine ⟨fun h => ⟨n, ⟨by have := hk.2; omega, fun e => ?_, h⟩, rfl⟩, fun ⟨a, ⟨_, _, h⟩, e⟩ => ?_⟩
  · obtain ⟨m, p, hu, _⟩ := up_end l (n : Int)
    rw [← e] at h
    exact hu.not h
  · have : a = n := by omega
    subst this; exact h
end
section
open Go.RowKit

theorem own_take {w : World} {base : Nat} {e : TypeId} {g n c : Nat} {xs : List Value} (h : w.ownsRow base e 1 (.slice (some ⟨g, 0, none⟩) n c) n xs) {k : Nat} (hk : k ≤ n) : w.ownsRow base e 1 (.slice (some ⟨g, 0, none⟩) k c) k (xs.take k) := by
  obtain ⟨hl, h | ⟨g', cap, cur, hv, hb, hg, hn, hm, hs, ht⟩⟩ := h
  · exact absurd h.1 (by simp)
  · simp at hv
    obtain ⟨rfl, rfl⟩ := hv
    refine ⟨by simp at hl ⊢; omega, .inr ⟨g, c, cur, rfl, hb, hg, by omega, hm, hs, ?_⟩⟩
    rw [← ht, List.take_take]
    congr 1
    omega
theorem cellOne_new (w : World) (v : Value) (t : TypeId) : ∀ j u, [v][j]? = some u → (w.alloc (.cells #[v] t)).cell? ((⟨w.heap.size, 0, none⟩ : Addr).add j) = some u := cells_new w [v] t
theorem cellOne_drew (w : World) (v : Value) (t : TypeId) : ∀ j u, [v][j]? = some u → ((w.alloc (.cells #[v] t)).drew).cell? ((⟨w.heap.size, 0, none⟩ : Addr).add j) = some u := cells_new w [v] t
theorem nodeInfo : (Try.prog.info? 147).map (fun i => (i.zero, i.size, i.bytes)) = some (some .nilIface, 1, 16) := by kernel_rfl

theorem oneIface (t : TypeId) (x : Value) : ∀ u ∈ [Value.iface t x], u.oneCell' = true := by intro u hu; simp at hu; subst hu; rfl
def ifc (p : TypeId × Value) : Value := .iface p.1 p.2
def PushPost (base d : Nat) (ok : Bool) (w : World) (B : Nat) (e : Ending) (w' : World) : Prop := ∃ v xs, e = .returned (.tuple #[v, .bool ok]) ∧ w'.ownsRow base 147 1 v d (List.map ifc xs) ∧ Below B w w'

set_option maxRecDepth 100000 in
set_option maxHeartbeats 1000000 in
theorem push0 (op i : Int) (v : Value) (n base B : Nat) (xs : List (TypeId × Value)) (w : World) (ho : arity op = 0) (hown : w.ownsRow base 147 1 v n (xs.map ifc)) (hn : n ≤ 1000) (hB : B ≤ base) (hb : base ≤ w.heap.size) :
    Calls Try.prog 93 #[v, .int .i64 op, .int .i64 i] w (PushPost base (n + 1) true w B) := by
  obtain ⟨i0, hi0, hz0, hz1, hz2⟩ := info_parts nodeInfo
  have Ho := hide ho
  clear ho
  obtain ⟨A, c, rfl, hc⟩ := own_form hown
  go_enter Try.func93, Try.ntmps93
  go_wp2_with (first
    | (go_at_call 94; refine (arity_any _ _).mono ?_; rintro e w' ⟨rfl, rfl⟩; rw [Ho.out])
    | (at_builtin; refine wpList_append_own _ rfl _ _ 151 rfl base 147 i0 .nilIface 1 16 Try.underlying151 hi0 hz0 hz1 hz2 rfl (by decide) _ _ _ rfl (hown.alloc _) ⟨w.heap.size, 0, none⟩ 1 1 [.iface 155 (.agg #[.int .i64 i])] rfl rfl (cellOne_new _ _ _) (oneIface _ _) (by unfold maxLen; omega) (by omega) (by simp; omega) ?_; intro v' w1 hown' hgrow _))
  go_ret2
  exact ⟨v', xs ++ [(155, .agg #[.int .i64 i])], rfl, by rw [List.map_append]; exact hown', ((Below.refl _ _).alloc (by omega) _).grown hgrow (by simp; omega) (fun k hk => by have := (hown.lt k hk).1; omega)⟩

set_option maxRecDepth 100000 in
set_option maxHeartbeats 1000000 in
theorem push1 (op i : Int) (v : Value) (n base B : Nat) (xs : List (TypeId × Value)) (w : World) (ho : arity op = 1) (h1 : 1 ≤ n) (hown : w.ownsRow base 147 1 v n (xs.map ifc)) (hn : n ≤ 1000) (hB : B ≤ base) (hb : base ≤ w.heap.size) :
    Calls Try.prog 93 #[v, .int .i64 op, .int .i64 i] w (PushPost base n true w B) := by
  obtain ⟨i0, hi0, hz0, hz1, hz2⟩ := info_parts nodeInfo
  have Ho := hide ho
  clear ho
  obtain ⟨g, c, rfl, hc, hgb, hgw⟩ := own_some hown (by omega)
  have hlen := hown.1
  rw [List.length_map] at hlen
  obtain ⟨xt, xv, hx⟩ : ∃ xt xv, (xs.map ifc)[n - 1]? = some (.iface xt xv) := ⟨(xs[n - 1]'(by omega)).1, (xs[n - 1]'(by omega)).2, by rw [List.getElem?_map, List.getElem?_eq_getElem (by omega)]; rfl⟩
  have hcell := own_cell hown rfl hx
  have hown2 := own_take hown (k := n - 1) (by omega)
  have Hown := hide hown
  have Hx := hide hx
  have Hlen := hide hlen
  clear hown hx hlen
  go_enter Try.func93, Try.ntmps93
  go_wp2_with (first
    | (go_at_call 94; refine (arity_any _ _).mono ?_; rintro e w' ⟨rfl, rfl⟩; rw [Ho.out])
    | fail)
  have s1 : IntKind.i64.wrap ((n : Int) - 1) = (n : Int) - 1 := IntWalk.i64_in _ (by omega)
  have s2 : 0 ≤ (n : Int) - 1 := by omega
  have s3 : ((n : Int) - 1).toNat = n - 1 := by omega
  have s4 : (n : Int) - 1 ≤ (c : Int) := by omega
  have s5 : (n : Int) - 1 < (n : Int) := by omega
  go_region_law (refine step_append_lies _ rfl (.tmp 33) (.tmp 42) 151 rfl base 147 i0 .nilIface 1 16 Try.underlying151 hi0 hz0 hz1 hz2 rfl (by decide) _ (n - 1) _ rfl (hown2.alloc _).drew ⟨w.heap.size, 0, none⟩ 1 1 [.iface 157 (.agg #[.int .i64 i, .iface xt xv])] rfl rfl (cellOne_drew _ _ _) (oneIface _ _) (by omega) (by unfold maxLen; omega) (by omega) (by simp; omega) _ rfl ?_; intro g2 c2 w2 hown3 hg2 hat hlt)
  have h4 : w2.ownsRow base 147 1 (.slice (some ⟨g2, 0, none⟩) n c2) n (List.map ifc (xs.take (n - 1) ++ [(157, .agg #[.int .i64 i, .iface xt xv])])) := by
    have h := hown3
    rw [List.map_append, List.map_take]
    rw [show n - 1 + 1 = n by omega] at h
    exact h
  have hbl : Below B w w2 := (((Below.refl _ _).alloc (by omega) _).drew).grown hg2 (by simp; omega) (fun k hk => by have := (hown2.lt k hk).1; omega)
  go_wp2_with fail
  go_ret2
  exact ⟨_, _, rfl, h4, hbl⟩

set_option maxRecDepth 100000 in
set_option maxHeartbeats 2000000 in
theorem push2 (op i : Int) (v : Value) (n base B : Nat) (xs : List (TypeId × Value)) (w : World) (ho : arity op = 2) (h1 : 2 ≤ n) (hown : w.ownsRow base 147 1 v n (xs.map ifc)) (hn : n ≤ 1000) (hB : B ≤ base) (hb : base ≤ w.heap.size) :
    Calls Try.prog 93 #[v, .int .i64 op, .int .i64 i] w (PushPost base (n - 1) true w B) := by
  obtain ⟨i0, hi0, hz0, hz1, hz2⟩ := info_parts nodeInfo
  have Ho := hide ho
  clear ho
  obtain ⟨g, c, rfl, hc, hgb, hgw⟩ := own_some hown (by omega)
  have hlen := hown.1
  rw [List.length_map] at hlen
  obtain ⟨xt, xv, hx⟩ : ∃ xt xv, (xs.map ifc)[n - 1]? = some (.iface xt xv) := ⟨(xs[n - 1]'(by omega)).1, (xs[n - 1]'(by omega)).2, by rw [List.getElem?_map, List.getElem?_eq_getElem (by omega)]; rfl⟩
  obtain ⟨yt, yv, hy⟩ : ∃ xt xv, (xs.map ifc)[n - 2]? = some (.iface xt xv) := ⟨(xs[n - 2]'(by omega)).1, (xs[n - 2]'(by omega)).2, by rw [List.getElem?_map, List.getElem?_eq_getElem (by omega)]; rfl⟩
  have hcell := own_cell hown rfl hx
  have hcelly := own_cell hown rfl hy
  have hown2 := own_take hown (k := n - 2) (by omega)
  have Hown := hide hown
  have Hx := hide hx
  have Hy := hide hy
  have Hlen := hide hlen
  clear hown hx hlen hy
  go_enter Try.func93, Try.ntmps93
  go_wp2_with (first
    | (go_at_call 94; refine (arity_any _ _).mono ?_; rintro e w' ⟨rfl, rfl⟩; rw [Ho.out])
    | fail)
  have s1 : IntKind.i64.wrap ((n : Int) - 1) = (n : Int) - 1 := IntWalk.i64_in _ (by omega)
  have s2 : 0 ≤ (n : Int) - 1 := by omega
  have s3 : ((n : Int) - 1).toNat = n - 1 := by omega
  have s5 : (n : Int) - 1 < (n : Int) := by omega
  have s6 : IntKind.i64.wrap ((n : Int) - 2) = (n : Int) - 2 := IntWalk.i64_in _ (by omega)
  have s7 : 0 ≤ (n : Int) - 2 := by omega
  have s8 : ((n : Int) - 2).toNat = n - 2 := by omega
  have s9 : (n : Int) - 2 ≤ (c : Int) := by omega
  have s10 : (n : Int) - 2 < (n : Int) := by omega
  have s11 : (1 : Int) ≤ (n : Int) := by omega
  have s12 : (2 : Int) ≤ (n : Int) := by omega
  go_region_law (refine step_append_lies _ rfl (.tmp 54) (.tmp 68) 151 rfl base 147 i0 .nilIface 1 16 Try.underlying151 hi0 hz0 hz1 hz2 rfl (by decide) _ (n - 2) _ rfl (hown2.alloc _).drew ⟨w.heap.size, 0, none⟩ 1 1 [.iface 159 (.agg #[.int .i64 i, .iface yt yv, .iface xt xv])] rfl rfl (cellOne_drew _ _ _) (oneIface _ _) (by omega) (by unfold maxLen; omega) (by omega) (by simp; omega) _ rfl ?_; intro g2 c2 w2 hown3 hg2 hat hlt)
  all_goals
    have h4 : w2.ownsRow base 147 1 (.slice (some ⟨g2, 0, none⟩) (n - 2 + 1) c2) (n - 1) (List.map ifc (xs.take (n - 2) ++ [(159, .agg #[.int .i64 i, .iface yt yv, .iface xt xv])])) := by
      have h := hown3
      rw [List.map_append, List.map_take]
      rw [show n - 2 + 1 = n - 1 by omega] at h ⊢
      exact h
    have hbl : Below B w w2 := (((Below.refl _ _).alloc (by omega) _).drew).grown hg2 (by simp; omega) (fun k hk => by have := (hown2.lt k hk).1; omega)
    go_wp2_with fail
    go_ret2
    exact ⟨_, _, rfl, h4, hbl⟩

set_option maxRecDepth 100000 in
set_option maxHeartbeats 1000000 in
theorem pushNo (op i : Int) (v : Value) (n base B : Nat) (xs : List (TypeId × Value)) (w : World) (ho : pushN n op = none) (hown : w.ownsRow base 147 1 v n (xs.map ifc)) (hn : n ≤ 1000) (hB : B ≤ base) (hb : base ≤ w.heap.size) :
    Calls Try.prog 93 #[v, .int .i64 op, .int .i64 i] w fun e w' => e = .returned (.tuple #[v, .bool false]) ∧ w = w' := by
  obtain ⟨A, c, rfl, hc⟩ := own_form hown
  have Hown := hide hown
  clear hown
  have key : (arity op = 1 ∧ n = 0) ∨ (arity op = 2 ∧ n = 0) ∨ (arity op = 2 ∧ n = 1) ∨ arity op = -1 := by
    unfold pushN at ho
    have : arity op = 0 ∨ arity op = 1 ∨ arity op = 2 ∨ arity op = -1 := by unfold arity; (repeat' split) <;> simp
    split at ho
    · cases ho
    · split at ho
      · cases ho
      · split at ho
        · cases ho
        · omega
  clear ho
  rcases key with ⟨ho, rfl⟩ | ⟨ho, rfl⟩ | ⟨ho, rfl⟩ | ho
  all_goals
    have Ho := hide ho
    clear ho
    go_enter Try.func93, Try.ntmps93
    go_wp2_with (first
      | (go_at_call 94; refine (arity_any _ _).mono ?_; rintro e w' ⟨rfl, rfl⟩; rw [Ho.out])
      | fail)
    go_ret2
    exact ⟨rfl, rfl⟩
theorem push_any (op i : Int) (v : Value) (n base B : Nat) (xs : List (TypeId × Value)) (w : World) {d : Nat} (ho : pushN n op = some d) (hown : w.ownsRow base 147 1 v n (xs.map ifc)) (hn : n ≤ 1000) (hB : B ≤ base) (hb : base ≤ w.heap.size) :
    Calls Try.prog 93 #[v, .int .i64 op, .int .i64 i] w (PushPost base d true w B) := by
  unfold pushN at ho
  split at ho
  · cases ho; exact push0 op i v n base B xs w (by assumption) hown hn hB hb
  · split at ho
    · rename_i h; cases ho; exact push1 op i v _ base B xs w h.1 h.2 hown hn hB hb
    · split at ho
      · rename_i h; cases ho; exact push2 op i v n base B xs w h.1 h.2 hown hn hB hb
      · cases ho
end
section
open Go.RowKit

theorem rowN_append (a b : List Int) : ∀ d, rowN (a ++ b) d = (rowN a d).bind (rowN b) := by
  induction a with
  | nil => intro d; rfl
  | cons x a ih => intro d; rw [List.cons_append, rowN, rowN]; cases pushN d x <;> simp [ih]
theorem rowN_snoc (a : List Int) (x : Int) (d : Nat) : rowN (a ++ [x]) d = (rowN a d).bind fun d' => pushN d' x := by
  rw [rowN_append]
  cases rowN a d with
  | none => rfl
  | some d' => simp [rowN]; cases pushN d' x <;> rfl
theorem pushN_le {d op : _} {d' : Nat} (h : pushN d op = some d') : d' ≤ d + 1 := by
  unfold pushN at h
  split at h
  · cases h; omega
  · split at h
    · cases h; omega
    · split at h
      · cases h; omega
      · cases h
def BuiltPost (r : Int) (w : World) (e : Ending) (w' : World) : Prop := ∃ v, e = .returned (.tuple #[v, .int .i64 r]) ∧ Below w.heap.size w w'

set_option maxRecDepth 100000 in
set_option maxHeartbeats 2000000 in
theorem built_any (l : List Item) (v : Value) (S : Nat → Prop) (w : World) (h : (sliceR itemR).one w S v l) (hS : ∀ b, S b → b < w.heap.size) :
    Calls Try.prog 90 #[v] w (BuiltPost (checkE (l.map Item.op)) w) := by
  obtain ⟨A, c, rfl, hc, hc2⟩ := slice_form h
  by_cases h0 : l.length = 0
  · have e : checkE (l.map Item.op) = 12 := by unfold checkE; rw [if_pos (by simpa using h0)]
    rw [e, h0]
    go_enter Try.func90, Try.ntmps90
    go_wp2_with fail
    go_ret2
    exact ⟨_, rfl, Below.refl _ _⟩
  · by_cases h1 : 64 < l.length
    · have e : checkE (l.map Item.op) = 3 := by unfold checkE; rw [if_neg (by simpa using h0), if_pos (by simpa using h1)]
      rw [e]
      have hd : (((l.length : Nat) : Int) == 0) = false := beq_eq_false_iff_ne.2 (by omega)
      have hd2 : decide ((64 : Int) < (l.length : Int)) = true := by simp; omega
      go_enter Try.func90, Try.ntmps90
      go_wp2_with fail
      go_ret2
      exact ⟨_, rfl, Below.refl _ _⟩
    · obtain ⟨b, o, rfl, hSb, hrow⟩ := slice_some h (by omega)
      have e : checkE (l.map Item.op) = if rowN (l.map Item.op) 0 = some 1 then 0 else 17 := by unfold checkE; rw [if_neg (by simpa using h0), if_neg (by simpa using h1)]
      rw [e]
      clear e
      obtain ⟨R, hR⟩ : ∃ R, R = rowN (l.map Item.op) 0 := ⟨_, rfl⟩
      rw [← hR]
      obtain ⟨E, hE⟩ : ∃ E : Int, E = if R = some 1 then 0 else 17 := ⟨_, rfl⟩
      rw [← hE]
      have HR := hide hR
      have HE := hide hE
      have Hsl := hide h
      clear hR hrow hE h
      have hd : (((l.length : Nat) : Int) == 0) = false := beq_eq_false_iff_ne.2 (by omega)
      have hd2 : decide ((64 : Int) < (l.length : Int)) = false := by simp; omega
      go_enter Try.func90, Try.ntmps90
      go_wp2_with fail
      go_loopw [4, 19] (fun rv iv wr => ∃ (k d : Nat) (xs : List (TypeId × Value)), k ≤ l.length ∧ d ≤ k ∧ iv = .int .i64 (k : Int) ∧ rowN ((l.take k).map Item.op) 0 = some d ∧ wr.ownsRow w.heap.size 147 1 rv d (xs.map ifc) ∧ Below w.heap.size w wr)
        (fun rv iv wr => l.length - (intOf iv).toNat)
      case atStart => exact ⟨0, 0, [], Nat.zero_le _, Nat.le_refl _, rfl, rfl, World.ownsRow_nil _ _ _ _, Below.refl _ _⟩
      case round =>
        obtain ⟨k, d, xs, hk, hdk, rfl, hrn, hown, hbl⟩ := hrel
        have Hrn := hide hrn
        clear hrn
        by_cases hlt : k < l.length
        · obtain ⟨hcs, hok⟩ := items_at (slice_below Hsl.out hbl hS) hlt
          have hnx := rowN_snoc ((l.take k).map Item.op) l[k].op 0
          rw [Hrn.out] at hnx
          have hall : rowN (l.map Item.op) 0 = (rowN ((l.take k).map Item.op ++ [l[k].op]) 0).bind (rowN ((l.drop (k + 1)).map Item.op)) := by
            rw [← rowN_append, List.append_assoc, List.singleton_append, ← List.map_cons, ← List.drop_eq_getElem_cons hlt, ← List.map_append, List.take_append_drop]
          rw [← HR.out] at hall
          have htk : (l.take (k + 1)).map Item.op = (l.take k).map Item.op ++ [l[k].op] := by
            rw [List.take_succ_eq_append_getElem hlt, List.map_append]; rfl
          have Hnx := hide hnx
          have Hall := hide hall
          have Htk := hide htk
          have Hok := hide hok
          have c0 := hcs 0 _ rfl
          have c1 := hcs 1 _ rfl
          have c2 := hcs 2 _ rfl
          have c3 := hcs 3 _ rfl
          have c4 := hcs 4 _ rfl
          have c5 := hcs 5 _ rfl
          have c6 := hcs 6 _ rfl
          have c7 := hcs 7 _ rfl
          have c8 := hcs 8 _ rfl
          clear hnx hall htk hok hcs
          generalize l[k] = x at *
          obtain ⟨xop, xln, xlv, xrn, xrv, xnm, xus, xli, xco⟩ := x
          simp only [Nat.add_zero] at c0 c1 c2 c3 c4 c5 c6 c7 c8
          have hsz : w.heap.size ≤ wr.heap.size := hbl.size
          cases hp : pushN d xop with
          | none =>
            have Hp := hide hp
            clear hp
            go_wp2_with fail
            refine (pushNo _ _ _ d w.heap.size 0 xs _ Hp.out (hown.alloc _) (by omega) (Nat.zero_le _) (by simp; omega)).mono ?_
            rintro e w' ⟨rfl, rfl⟩
            go_wp2_with fail
            go_ret2
            have e17 : E = 17 := by
              rw [HE.out, Hall.out, Hnx.out]
              simp [Hp.out]
            exact ⟨_, by rw [e17]; rfl, hbl.alloc hsz _⟩
          | some d' =>
            have Hp := hide hp
            clear hp
            go_wp2_with fail
            refine (push_any _ _ _ d w.heap.size w.heap.size xs _ Hp.out (hown.alloc _) (by omega) (Nat.le_refl _) (by simp; omega)).mono ?_
            rintro e w' ⟨v', xs', rfl, hown', hbl'⟩
            have Hown := hide hown
            clear hown
            go_wp2_with fail
            go_roundw
            case rel => exact ⟨k + 1, d', xs', by omega, by have := pushN_le Hp.out; omega, by go_num, by rw [Htk.out, Hnx.out]; exact Hp.out, hown', (hbl.alloc hsz _).trans hbl'⟩
            case measure => simp [intOf]; omega
        · obtain rfl : k = l.length := by omega
          have hf := Hrn.out
          rw [List.take_length, ← HR.out] at hf
          have Hf := hide hf
          clear hf
          obtain ⟨A, c', rfl, hc'⟩ := own_form hown
          cases hd1 : ((d : Int) != 1) with
          | true =>
            have e17 : E = 17 := by
              rw [HE.out, Hf.out, if_neg (by simp at hd1 ⊢; omega)]
            have E17 := hide e17
            clear e17
            go_wp2_with fail
            go_ret2
            exact ⟨_, by rw [E17.out]; rfl, hbl⟩
          | false =>
            obtain rfl : d = 1 := by simp at hd1; omega
            have e0 : E = 0 := by rw [HE.out, Hf.out, if_pos rfl]
            have E0 := hide e0
            clear e0
            have hxl : xs.length = 1 := by have := hown.1; simpa using this
            obtain ⟨x, rfl⟩ : ∃ x, xs = [x] := List.length_eq_one_iff.1 hxl
            obtain ⟨g, c2, hv, hc2', _, _⟩ := own_some hown (by omega)
            cases hv
            have hcell := own_cell hown rfl (j := 0) (u := ifc x) rfl
            clear hown hxl
            go_wp2_with fail
            go_ret2
            exact ⟨_, by rw [E0.out]; rfl, hbl⟩

set_option maxRecDepth 100000 in
theorem check_any (l : List Item) (v : Value) (S : Nat → Prop) (w : World) (h : (sliceR itemR).one w S v l) (hS : ∀ b, S b → b < w.heap.size) :
    Calls Try.prog 83 #[v] w fun e w' => e = .returned (.int .i64 (checkE (l.map Item.op))) ∧ Below w.heap.size w w' := by
  have H := hide (built_any l v S w h hS)
  clear h hS
  go_enter Try.func83, Try.ntmps83
  go_wp2_with (go_at_call 90; refine H.out.mono ?_; rintro e w' ⟨nv, rfl, hb⟩)
  go_ret
  exact ⟨rfl, hb⟩

def itemOf (x : Inst) : Item := ⟨x.op, ⟨#[]⟩, 0, ⟨#[]⟩, 0, ⟨#[]⟩, ⟨#[]⟩, 0, 0⟩
theorem itemOf_op (l : List Inst) : (l.map itemOf).map Item.op = l.map Inst.op := by rw [List.map_map]; rfl
theorem itemInfo : (Try.prog.info? 105).map (fun i => (i.zero, i.size, i.bytes)) = some (some (.agg #[.int .i64 0, .string ⟨#[]⟩, .int .i64 0, .string ⟨#[]⟩, .int .i64 0, .string ⟨#[]⟩, .string ⟨#[]⟩, .int .i64 0, .int .i64 0]), 9, 104) := by kernel_rfl
theorem cells_at_new (w : World) (g : Nat) (L : List Value) (t : TypeId) (hg : g = w.heap.size) : ∀ j u, L[j]? = some u → (w.alloc (.cells L.toArray t)).cell? ((⟨g, 0, none⟩ : Addr).add j) = some u := by
  subst hg; exact cells_new w L t
theorem item_one (x : Item) : ∀ u ∈ x.cells, u.oneCell' = true := by
  intro u hu
  simp only [Item.cells, List.mem_cons, List.not_mem_nil, or_false] at hu
  rcases hu with rfl | rfl | rfl | rfl | rfl | rfl | rfl | rfl | rfl <;> rfl

set_option maxRecDepth 100000 in
set_option maxHeartbeats 2000000 in
theorem shape_any (l : List Inst) (v : Value) (S : Nat → Prop) (w : World) (h : (sliceR instR).one w S v l) (hS : ∀ b, S b → b < w.heap.size) (hl : l.length ≤ 1000) :
    Calls Try.prog 84 #[v] w fun e w' => ∃ u, e = .returned u ∧ w'.ownsRow w.heap.size 105 9 u l.length ((l.map itemOf).flatMap Item.cells) ∧ Below w.heap.size w w' := by
  obtain ⟨i0, hi0, hz0, hz1, hz2⟩ := info_parts itemInfo
  obtain ⟨A, c, rfl, hc, hc2⟩ := slice_form h
  have Hsl := hide h
  clear h
  go_enter Try.func84, Try.ntmps84
  go_wp2_with fail
  go_loopw [3, 8] (fun rv iv wr => ∃ (k : Nat), k ≤ l.length ∧ iv = .int .i64 (k : Int) ∧ wr.ownsRow w.heap.size 105 9 rv k (((l.take k).map itemOf).flatMap Item.cells) ∧ Below w.heap.size w wr)
    (fun rv iv wr => l.length - (intOf iv).toNat)
  case atStart => exact ⟨0, Nat.zero_le _, rfl, World.ownsRow_nil _ _ _ _, Below.refl _ _⟩
  case round =>
    obtain ⟨k, hk, rfl, hown, hbl⟩ := hrel
    by_cases hlt : k < l.length
    · have hsl := slice_below Hsl.out hbl hS
      obtain ⟨b, o, hv, _, _⟩ := slice_some hsl (by omega)
      subst hv
      obtain ⟨hcs, hok⟩ := insts_at hsl hlt
      have htk : ((l.take (k + 1)).map itemOf).flatMap Item.cells = ((l.take k).map itemOf).flatMap Item.cells ++ (itemOf l[k]).cells := by
        rw [List.take_succ_eq_append_getElem hlt, List.map_append, List.flatMap_append]; simp
      have Htk := hide htk
      have c0 := hcs 0 _ rfl
      have c1 := hcs 1 _ rfl
      have c2 := hcs 2 _ rfl
      have c3 := hcs 3 _ rfl
      have c4 := hcs 4 _ rfl
      have c5 := hcs 5 _ rfl
      have c6 := hcs 6 _ rfl
      clear htk hok hcs hsl
      generalize l[k] = x at *
      obtain ⟨xop, xla, xln, xra, xrn, xn, xu⟩ := x
      simp only [Nat.add_zero] at c0 c1 c2 c3 c4 c5 c6
      have hsz : w.heap.size ≤ wr.heap.size := hbl.size
      go_wp2_with (at_builtin; refine wpList_append_own _ rfl _ _ 95 rfl w.heap.size 105 i0 (.agg #[.int .i64 0, .string ⟨#[]⟩, .int .i64 0, .string ⟨#[]⟩, .int .i64 0, .string ⟨#[]⟩, .string ⟨#[]⟩, .int .i64 0, .int .i64 0]) 9 104 Try.underlying95 hi0 hz0 hz1 hz2 rfl (by decide) _ _ _ rfl ((hown.alloc _).alloc _) ⟨wr.heap.size + 1, 0, none⟩ 1 1 [.int .i64 xop, .string ⟨#[]⟩, .int .i64 0, .string ⟨#[]⟩, .int .i64 0, .string ⟨#[]⟩, .string ⟨#[]⟩, .int .i64 0, .int .i64 0] rfl rfl (cells_at_new _ _ _ _ (by simp)) (item_one (itemOf ⟨xop, 0, 0, 0, 0, 0, 0⟩)) (by unfold maxLen; omega) (by omega) (by simp; omega) ?_; intro v2 w2 hown2 hg2 _)
      have hb2 : Below w.heap.size w w2 := ((hbl.alloc hsz _).alloc (by simp; omega) _).grown hg2 (by simp; omega) (fun j hj => (hown.lt j hj).1)
      have Hown := hide hown
      have Hown2 := hide hown2
      clear hown hown2 hg2
      go_wp2_with fail
      go_roundw
      case rel => exact ⟨k + 1, by omega, by go_num, by rw [Htk.out]; exact Hown2.out, hb2⟩
      case measure => simp [intOf]; omega
    · obtain rfl : k = l.length := by omega
      rw [List.take_length] at hown
      have Hown := hide hown
      clear hown
      go_wp2_with fail
      go_ret
      exact ⟨_, rfl, Hown.out, hbl⟩
end
end Go.Proofs.Ytcindbpnaicemaa
