/-
  Parts of the proof: H5, NestSpec, Law, Nest, CL, LabelSpec, Label, LabelB, LabelC, LabelE, LabelF, LabelG.
-/
import Derived.Test.YtbijbnfgccdneaaGreatCno7
import Derived.WalkKit
import Derived.Test.YtbijbnfgccdneaaGreatRows
import Derived.ProofKit
import Derived.OpenShut
import Derived.SizedLaws
import Derived.WalkSpells
import Derived.ScopeJumps
import Derived.WalkMore
import Derived.WalkLawsBesides
import Derived.Handy
import Derived.Deep.DeepCutAuto
import Derived.Deep.CutBlock
import Derived.BigQuiet
import Derived.Deep.QuietTactic
import Derived.Deep.OwnRows
import Derived.Deep.RegionWith
import Derived.Maps.AppendAt
set_option linter.unusedVariables false
set_option linter.unusedSimpArgs false
namespace Go.Proofs.YtbijbnfgccdneaaGreat
section
open Go.RowKit

/-! ### plain -/
abbrev MSt := List Stp × List Int
def lastI (r : List Int) : Int := r.getLastD 0
def stepS (p : MSt) (x : Inst) : MSt :=
  if arity x.op = 1 then
    let q := oneF p.1 x.op (lastI p.2)
    (q.1, p.2.dropLast ++ [q.2])
  else if arity x.op = 2 then
    let q := twoF p.1 x.op (lastI p.2.dropLast) (lastI p.2)
    (q.1, p.2.dropLast.dropLast ++ [q.2])
  else
    let q := mkF p.1 (stI x)
    (q.1, p.2 ++ [q.2])
def runS (l : List Inst) : MSt := l.foldl stepS ([], [])
theorem runS_take {l : List Inst} {k : Nat} (hk : k < l.length) : runS (l.take (k + 1)) = stepS (runS (l.take k)) l[k] := by
  unfold runS
  rw [List.take_succ_eq_append_getElem hk, List.foldl_append]
  rfl
theorem Good.mono {n m : Nat} {l : List Stp} (h : Good n l) (hn : n ≤ m) (hm : m ≤ 100000) : Good m l := ⟨h.st, h.ok, Nat.le_trans h.len hn, hm⟩
theorem Made.mono {n m : Nat} {l : List Stp} {p : Mk} (h : Made n l p) (hn : n ≤ m) (hm : m ≤ 100000) : Made m l p := ⟨h.good.mono hn hm, h.isIn, h.pre⟩
theorem mdOne {n : Nat} {l : List Stp} {op a : Int} (hg : Good n l) (ha : In l a) (hn : n + 8 ≤ 100000) : Made (n + 8) l (oneF l op a) := by
  unfold oneF
  split
  · have m1 := mdN hg ha (by omega)
    have m2 := mdX m1.good m1.isIn (by omega)
    have m3 := mdN m2.good m2.isIn (by omega)
    exact Made.mono ⟨m3.good, m3.isIn, (m1.pre.trans m2.pre).trans m3.pre⟩ (by omega) hn
  · split
    · exact (mdX hg ha (by omega)).mono (by omega) hn
    · split
      · have m1 := mdN hg ha (by omega)
        have m2 := mdG m1.good m1.isIn (by omega)
        have m3 := mdN m2.good m2.isIn (by omega)
        exact Made.mono ⟨m3.good, m3.isIn, (m1.pre.trans m2.pre).trans m3.pre⟩ (by omega) hn
      · split
        · have m1 := mdI hg instT_ok (by decide) (by omega)
          have m2 := mdU m1.good m1.isIn (ha.mono m1.pre) (by omega)
          exact Made.mono ⟨m2.good, m2.isIn, m1.pre.trans m2.pre⟩ (by omega) hn
        · split
          · have m1 := mdN hg ha (by omega)
            have m2 := mdI m1.good instT_ok (by decide) (by omega)
            have m3 := mdU m2.good m2.isIn (m1.isIn.mono m2.pre) (by omega)
            have m4 := mdN m3.good m3.isIn (by omega)
            exact Made.mono ⟨m4.good, m4.isIn, ((m1.pre.trans m2.pre).trans m3.pre).trans m4.pre⟩ (by omega) hn
          · split
            · exact (mdG hg ha (by omega)).mono (by omega) hn
            · exact (mdN hg ha (by omega)).mono (by omega) hn
theorem mdTwo {n : Nat} {l : List Stp} {op a b : Int} (hg : Good n l) (ha : In l a) (hb : In l b) (hn : n + 8 ≤ 100000) : Made (n + 8) l (twoF l op a b) := by
  unfold twoF
  split
  · have m1 := mdN hg ha (by omega)
    have m2 := mdN m1.good (hb.mono m1.pre) (by omega)
    have m3 := mdA m2.good (m1.isIn.mono m2.pre) m2.isIn (by omega)
    have m4 := mdN m3.good m3.isIn (by omega)
    exact Made.mono ⟨m4.good, m4.isIn, ((m1.pre.trans m2.pre).trans m3.pre).trans m4.pre⟩ (by omega) hn
  · split
    · have m1 := mdN hg hb (by omega)
      have m2 := mdA m1.good (ha.mono m1.pre) m1.isIn (by omega)
      have m3 := mdN m2.good m2.isIn (by omega)
      exact Made.mono ⟨m3.good, m3.isIn, (m1.pre.trans m2.pre).trans m3.pre⟩ (by omega) hn
    · split
      · exact mdAll hg ha hb hn
      · split
        · exact (mdU hg ha hb (by omega)).mono (by omega) hn
        · exact (mdA hg ha hb (by omega)).mono (by omega) hn
theorem arity0 {op : Int} (h : arity op = 0) : 1 ≤ op ∧ op ≤ 14 := by
  unfold arity at h
  split at h
  · assumption
  · split at h
    · omega
    · split at h <;> omega
theorem concat_of {r : List Int} (h : 0 < r.length) : r = r.dropLast ++ [lastI r] := by
  have hne : r ≠ [] := by intro e; simp [e] at h
  unfold lastI
  rw [List.getLastD_eq_getLast?, List.getLast?_eq_some_getLast hne, Option.getD_some, List.dropLast_concat_getLast hne]
structure GoodS (n : Nat) (p : MSt) : Prop where
  good : Good n p.1
  row : ∀ a ∈ p.2, In p.1 a
theorem last_mem {r : List Int} (h : 0 < r.length) : lastI r ∈ r ∧ ∀ a ∈ r.dropLast, a ∈ r := by
  have e := concat_of h
  refine ⟨?_, fun a ha => (List.dropLast_sublist _).subset ha⟩
  rw [e]
  simp [lastI]
theorem stepS_ok {n d : Nat} {p : MSt} {x : Inst} (h : GoodS n p) (hx : x.ok) (hp : pushN p.2.length x.op = some d) (hn : n + 8 ≤ 100000) : GoodS (n + 8) (stepS p x) ∧ (stepS p x).2.length = d := by
  unfold pushN at hp
  unfold stepS
  by_cases h1 : arity x.op = 1
  · have h0 : arity x.op ≠ 0 := by omega
    rw [if_neg h0] at hp
    by_cases hd : 1 ≤ p.2.length
    · rw [if_pos ⟨h1, hd⟩] at hp
      rw [if_pos h1]
      have hm := last_mem hd
      have m := mdOne (op := x.op) h.good (h.row _ hm.1) hn
      refine ⟨⟨m.good, fun a ha => ?_⟩, ?_⟩
      · rcases List.mem_append.1 ha with ha | ha
        · exact (h.row a (hm.2 a ha)).mono m.pre
        · simp at ha
          rw [ha]
          exact m.isIn
      · cases hp
        simp
        omega
    · rw [if_neg (by simp [hd]), if_neg (by omega)] at hp
      cases hp
  · rw [if_neg h1]
    by_cases h2 : arity x.op = 2
    · rw [if_neg (by omega), if_neg (by omega)] at hp
      by_cases hd : 2 ≤ p.2.length
      · rw [if_pos ⟨h2, hd⟩] at hp
        rw [if_pos h2]
        have hm := last_mem (show 0 < p.2.length by omega)
        have hm2 := last_mem (r := p.2.dropLast) (by simp; omega)
        have m := mdTwo (op := x.op) h.good (h.row _ (hm.2 _ hm2.1)) (h.row _ hm.1) hn
        refine ⟨⟨m.good, fun a ha => ?_⟩, ?_⟩
        · rcases List.mem_append.1 ha with ha | ha
          · exact (h.row a (hm.2 a (hm2.2 a ha))).mono m.pre
          · simp at ha
            rw [ha]
            exact m.isIn
        · cases hp
          simp
          omega
      · rw [if_neg (by simp [hd])] at hp
        cases hp
    · rw [if_neg h2]
      by_cases h0 : arity x.op = 0
      · rw [if_pos h0] at hp
        have h15 := arity0 h0
        have m := (mdI h.good hx h15 (by omega)).mono (m := n + 8) (by omega) hn
        refine ⟨⟨m.good, fun a ha => ?_⟩, ?_⟩
        · rcases List.mem_append.1 ha with ha | ha
          · exact (h.row a ha).mono m.pre
          · simp at ha
            rw [ha]
            exact m.isIn
        · cases hp
          simp
      · rw [if_neg h0, if_neg (by simp [h1]), if_neg (by simp [h2])] at hp
        cases hp
theorem rowN_app : ∀ (a b : List Int) (d : Nat), rowN (a ++ b) d = (rowN a d).bind (rowN b)
  | [], b, d => rfl
  | op :: a, b, d => by
    simp only [List.cons_append, rowN]
    cases pushN d op with
    | none => rfl
    | some d' => exact rowN_app a b d'
theorem rowN_at {l : List Inst} {k e : Nat} (h : rowN (l.map Inst.op) 0 = some e) (hk : k < l.length) : ∃ d, rowN ((l.take k).map Inst.op) 0 = some d ∧ ∃ d', pushN d l[k].op = some d' ∧ rowN ((l.take (k + 1)).map Inst.op) 0 = some d' := by
  have h1 : l = l.take k ++ l[k] :: l.drop (k + 1) := by rw [List.getElem_cons_drop, List.take_append_drop]
  rw [h1, List.map_append, rowN_app] at h
  cases hd : rowN ((l.take k).map Inst.op) 0 with
  | none => rw [hd] at h; cases h
  | some d =>
    refine ⟨d, rfl, ?_⟩
    rw [hd] at h
    simp only [List.map_cons, Option.bind_some, rowN] at h
    cases hp : pushN d l[k].op with
    | none => rw [hp] at h; cases h
    | some d' =>
      refine ⟨d', rfl, ?_⟩
      rw [List.take_succ_eq_append_getElem hk, List.map_append, rowN_app, hd]
      simp [rowN, hp]
theorem rowN_le : ∀ (l : List Int) (d e : Nat), rowN l d = some e → e ≤ d + l.length
  | [], d, e, h => by cases h; exact Nat.le_refl _
  | op :: l, d, e, h => by
    rw [rowN] at h
    cases hp : pushN d op with
    | none => rw [hp] at h; cases h
    | some d' =>
      rw [hp] at h
      have h1 := rowN_le l d' e h
      have h2 := pushN_le hp
      simp only [List.length_cons]
      omega
theorem runS_ok {l : List Inst} {e : Nat} (h : rowN (l.map Inst.op) 0 = some e) (hx : ∀ x ∈ l, x.ok) (hl : l.length ≤ 64) : ∀ k, k ≤ l.length → GoodS (8 * k) (runS (l.take k)) ∧ rowN ((l.take k).map Inst.op) 0 = some (runS (l.take k)).2.length
  | 0, _ => ⟨⟨⟨⟨by simp [runS], fun i s hi => by simp [runS] at hi⟩, fun t ht => by simp [runS] at ht, by simp [runS], by omega⟩, fun a ha => by simp [runS] at ha⟩, by simp [rowN, runS]⟩
  | k + 1, hk => by
    obtain ⟨h1, h2⟩ := runS_ok h hx hl k (by omega)
    obtain ⟨d, h3, d', h4, h5⟩ := rowN_at h (show k < l.length by omega)
    rw [h2] at h3
    cases h3
    obtain ⟨h6, h7⟩ := stepS_ok h1 (hx _ (List.getElem_mem (by omega))) h4 (by omega)
    rw [runS_take (by omega)]
    exact ⟨by rw [show 8 * (k + 1) = 8 * k + 8 by omega]; exact h6, by rw [h5, h7]⟩
/-! ### the walk -/
theorem givesT {r av : AV} {st : ASt} (h : r.ren [] = av) : aGives ⟨r, [], 0⟩ st av := ⟨[], List.nodup_nil, h, trivial⟩
theorem oneA {vs : Array Value} (h : vs.size = 1) : ∃ a, vs = #[a] := ⟨vs[0], by apply Array.ext (by simpa using h); intro i h1 h2; simp at h2; match i with | 0 => rfl⟩
abbrev eItm (op : Int) : List AV := [eI op, .c (.string ByteArray.empty), eI 0, .c (.string ByteArray.empty), eI 0, .c (.string ByteArray.empty), .c (.string ByteArray.empty), eI 0, eI 0]
theorem rt_items {w : World} {S : Nat → Prop} {v : Value} {l : List Inst} (h : RT w S v (.sl 9 (l.map fun x => eItm x.op))) (hl : ∀ x ∈ l, x.ok) : (sliceR itemR).one w S v (l.map itemOf) := by
  obtain ⟨A, cap, rfl, hc, hm, _, hA⟩ := h.sl_inv
  refine ⟨A, cap, by simp, by simpa using hc, hm, fun h0 => ?_⟩
  obtain ⟨b, o, rfl, hb, U, hcell, hr, _⟩ := hA (by simpa using h0)
  refine ⟨b, o, rfl, hb, fun i hi => ⟨(l.map itemOf)[i].cells, fun j u hu => ?_, rfl, ?_⟩⟩
  · have hi' : i < l.length := by simpa using hi
    have h1 : (l.map fun x => eItm x.op)[i]? = some (eItm l[i].op) := by simp [hi']
    have h3 : ∀ (j : Nat) (u : Value), (itemOf l[i]).cells[j]? = some u → (eItm l[i].op)[j]? = some (AV.c u) := by
      intro j u hu
      unfold Item.cells itemOf at hu
      match j with
      | 0 | 1 | 2 | 3 | 4 | 5 | 6 | 7 | 8 => simp at hu; subst hu; rfl
      | j + 9 => simp at hu
    have h4 := h3 j u (by simpa using hu)
    have h2 := hcell i j _ _ h1 h4
    rw [rtc (hr i j _ _ h1 h4)] at h2
    exact h2
  · have hi' : i < l.length := by simpa using hi
    have := (hl _ (List.getElem_mem hi')).1
    have z : ok64 0 := by simp [ok64]
    have e : (ByteArray.size ⟨#[]⟩) ≤ 9223372036854775807 := by decide
    rw [List.getElem_map]
    exact ⟨this, z, z, z, z, e, e, e, e⟩
theorem check_A (l : List Inst) (hl : ∀ x ∈ l, x.ok) : ADet Tryz.prog 12 [.sl 9 (l.map fun x => eItm x.op)] (val (.int .i64 (checkE (l.map Inst.op)))) :=
  adet_of_calls (enters_of Tryz.func12 rfl (by decide)) fun S w vs hS hn hv => by
    obtain ⟨a, rfl⟩ := oneA hn
    have := check_any (l.map itemOf) a S w (rt_items (hv 0 a _ rfl rfl) hl) hS.sub
    rw [itemOf_op] at this
    exact this
theorem arity_A2 (op : Int) : ADet Tryz.prog 13 [eI op] (val (.int .i64 (arity op))) :=
  adet_of_calls (enters_of Tryz.func13 rfl (by decide)) fun S w vs hS hn hv => by
    obtain ⟨a, rfl⟩ := oneA hn
    obtain rfl := rtc (hv 0 a _ rfl rfl)
    exact (arity_any op w).mono fun e w' ⟨h1, h2⟩ => ⟨h1, h2 ▸ Below.refl _ _⟩
/-- what norm.Steps gives -/
def stepsR (l : List Inst) : Res := if checkE (l.map Inst.op) = 0 then ⟨.tup [.sl 10 ((runS l).1.map eStp), eI (lastI (runS l).2), eI 0], [], 0⟩ else ⟨.tup [.c (.slice none 0 0), eI 0, eI 17], [], 0⟩
def PopPost (rows : List (List AV)) (ents : List (Value × Value)) (r : List Int) (x : Int) (av : AV) (cells' : List AV) (objs' : List AObj) : Prop := av = eI x ∧ cells' = [.sl 10 rows, .osl 1, .osl 2] ∧ objs' = [.map ents, oR r]
set_option maxRecDepth 100000 in
/-- pop, where the steps are written no more -/
theorem pop_F {x : Int} (rows : List (List AV)) (ents : List (Value × Value)) (r : List Int) (hr : r.length ≤ 100000) : AMth Tryz.prog 15 85 [.sl 10 rows, .osl 1, .osl 2] [.map ents, oR (r ++ [x])] [] (PopPost rows ents r x) := by
  refine amth_of_code mixedT Tryz.func15 rfl (by decide) Tryz.ntmps15 Tryz.results15 rfl (by kernel_rfl) (by simp [AV.ltL, AV.lt]) (by simp [plainO]) ?_
  have hw : IntKind.i64.wrap ((r.length : Int) + 1 - 1) = (r.length : Int) := by
    rw [wrap_in (by omega) (by omega)]
    omega
  have hlt : (r.length : Int) < (r.length : Int) + 1 := by omega
  have hrow : (List.map (fun x => [eI x]) (r ++ [x]))[r.length]?.getD [] = [eI x] := by simp
  have hlt2 : r.length < r.length + 1 := by omega
  have hle : (r.length : Int) ≤ (r.length : Int) + 1 := by omega
  have htk : List.take r.length (List.map (fun x => [eI x]) (r ++ [x])) = List.map (fun x => [eI x]) r := by simp
  (repeat' (first | simp (maxSteps := 5000000) (implicitDefEqProofs := false) only [ruA, ruB, aEv, aTake, aLoad, aField, aIndex, aLen, aBin, bin2, aUn, un1, aExtract, aConv, ASt.get, aget, ASt.put, aStore, aBox, aAppend, aBuildSlice, aMake, aBuild, aFill, oneParts, allC, aBinS, yv, aCells, oneC, oneCL, treeC, treeL, treeML, treeM_c, treeM_sl, treeM_rp, treeM_any, treeM_fn, treeM_bfn, aLit, aDst, aSrc, appTab, Value.cells, Value.oneCell', envOf, aResL, aOne, ↓reduceIte, reduceCtorEq, forall_const, Nat.reduceLT, Nat.reduceEqDiff, Nat.reduceAdd, Nat.reduceMul, Nat.reduceSub, Nat.reduceLeDiff, Nat.reduceBEq, eq_self, implies_true, ne_eq, dref, dref1, dref2, aExecS, aStoreB, aTakes, aTakeE, aElder, aFrom, aFresh, isLoad, aBuildSlice1, frzs, frz1, ownIds, AV.frz, AV.frzL, frzEnv, AV.shift, AV.shiftL, aFieldV, aSliceW, aSliceO, aSlice, aSliceR, aSliceS, aBd, aMax, frzAVs, frzAV, frzTab, AObj.frz, aMM, aNilS, aMay, aNil, aLenM, aClear, aLookup, aLookG, aMapUpd, aMapPut, keyV, aLookR, false_or, aExecU, tyF_85_2, tyA_55, tyS_55, tyE_55, tyK_55, tyK_3, tyA_3, tyS_3, tabN, List.length_append, List.length_singleton, Int.natCast_add, Int.natCast_one, hw, hlt, hlt2, hle, hrow, htk] | (with_reducible refine aIf_split (fun _ => ?_) (fun _ => ?_)) | (with_reducible refine aSel_split (fun _ => ?_) (fun _ => ?_)) | (with_reducible refine aGd_split (fun _ => ?_) (fun _ => ?_))))
  exact ⟨[.sl 10 rows, .osl 1, .osl 2], [.map ents, oR r], ⟨rfl, rfl, rfl⟩, trivial, ⟨rfl, by simp [AV.ltL, AV.lt], by simp [plainO]⟩, (weak_ren1 [0, 1, 3] ⟨(by decide), (by (first | ((simp only [envInR, tabInR, envLt, tabLt, AObj.lt, AV.lt, AV.ltL, AV.ren, AV.renL, AObj.ren, List.getD_cons_zero, List.getD_cons_succ, List.length_cons, List.length_nil, ruW, ASt.get, aget, ASt.put, ↓reduceIte, reduceCtorEq, Nat.reduceLT, Nat.reduceEqDiff, Nat.reduceAdd, Nat.reduceLeDiff, eq_self, implies_true, tabN]) <;> (repeat' apply And.intro) <;> first | (rw [wrapK (by omega)]; done) | (simp; done) | omega) | fail))⟩)⟩
/-- between the rounds of Steps -/
def StepsI (l : List Inst) (st : ASt) : Prop := ∃ (k : Nat) (ents : List (Value × Value)) (L : List Stp) (r : List Int), k ≤ l.length ∧ (runS (l.take k) = (L, r) ∧ MapOK ents L) ∧
  ((k < l.length ∧ st = ⟨80, [(8, .op 0 0 0), (32, sInsts l), (33, eI (l.length : Int)), (34, eI (k : Int))], [(0, some (.box 85 oMk)), (1, some (oL L)), (2, some (.map ents)), (3, some (oR r))], 4⟩) ∨
   (k = l.length ∧ st = ⟨80, [(8, .op 0 0 0), (32, sInsts l), (33, eI (l.length : Int)), (34, eI (k : Int))], [(0, some (.box 85 [.sl 10 (L.map eStp), .osl 1, .osl 2])), (1, some (.map ents)), (2, some (oR r))], 3⟩))
theorem steps_round {l : List Inst} {k : Nat} {n : Nat} {st : ASt} {L : List Stp} {r : List Int} {ents : List (Value × Value)} (hk : k < l.length) (hrun : runS (l.take (k + 1)) = (L, r)) (hme : MapOK ents L)
    (hw : Weak st ⟨80, [(8, .op 0 0 0), (32, sInsts l), (33, eI (l.length : Int)), (34, eI ((k + 1 : Nat) : Int))], [(0, some (.box 85 oMk)), (1, some (oL L)), (2, some (.map ents)), (3, some (oR r))], 4⟩) (hn : n = l.length - k) :
    aRound (StepsI l) (fun st => l.length - slotN st 34) n st := by
  by_cases h : k + 1 < l.length
  · refine roundI hw ⟨k + 1, ents, L, r, by omega, ⟨hrun, hme⟩, .inl ⟨h, rfl⟩⟩ ?_
    simp only [slotN, ASt.get, aget, ↓reduceIte, Nat.reduceLT, Nat.reduceEqDiff]
    omega
  · have hl : k + 1 = l.length := by omega
    refine roundI (hw.trans ((weak_frz _ 1).trans ?_)) ⟨k + 1, ents, L, r, by omega, ⟨hrun, hme⟩, .inr ⟨hl, rfl⟩⟩ ?_
    · simp only [frz1, frzEnv, frzTab, ATab.get_cons, AObj.frz, AV.frz, AV.frzL, oMk, ↓reduceIte, Nat.reduceEqDiff, Option.map_some, Nat.one_ne_zero, reduceCtorEq, Nat.succ_ne_self]
      exact (weak_ren1 [0, 2, 3] ⟨(by decide), (by (first | ((simp only [envInR, tabInR, envLt, tabLt, AObj.lt, AV.lt, AV.ltL, AV.ren, AV.renL, AObj.ren, List.getD_cons_zero, List.getD_cons_succ, List.length_cons, List.length_nil, ruW, ASt.get, aget, ASt.put, ↓reduceIte, reduceCtorEq, Nat.reduceLT, Nat.reduceEqDiff, Nat.reduceAdd, Nat.reduceLeDiff, eq_self, implies_true]) <;> (repeat' apply And.intro) <;> first | (rw [wrapK (by omega)]; done) | (simp; done) | omega) | fail))⟩)
    · simp only [slotN, ASt.get, aget, ↓reduceIte, Nat.reduceLT, Nat.reduceEqDiff]
      omega
theorem stepsR_ok (l : List Inst) : (stepsR l).Ok := by
  unfold stepsR
  split
  · exact ⟨fun id o h => (by cases h), ⟨trivial, trivial, trivial, trivial⟩⟩
  · exact ⟨fun id o h => (by cases h), ⟨trivial, trivial, trivial, trivial⟩⟩
set_option maxRecDepth 100000 in
set_option maxHeartbeats 4000000 in
theorem steps_A (l : List Inst) (hx : ∀ x ∈ l, x.ok) (hl : l.length ≤ 1000000) : ADet Tryz.prog 8 [sInsts l] (stepsR l) := by
  refine adet_of_code mixedT Tryz.func8 rfl (by decide) Tryz.ntmps8 Tryz.results8 rfl (stepsR_ok l) ?_
  (repeat' (first | simp (maxSteps := 5000000) (implicitDefEqProofs := false) only [ruA, ruB, aEv, aTake, aLoad, aField, aIndex, aLen, aBin, bin2, aUn, un1, aExtract, aConv, ASt.get, aget, ASt.put, aStore, aBox, aAppend, aBuildSlice, aMake, aBuild, aFill, oneParts, allC, aBinS, yv, aCells, oneC, oneCL, treeC, treeL, treeML, treeM_c, treeM_sl, treeM_rp, treeM_any, treeM_fn, treeM_bfn, aLit, aDst, aSrc, appTab, Value.cells, Value.oneCell', envOf, aResL, aOne, ↓reduceIte, reduceCtorEq, forall_const, Nat.reduceLT, Nat.reduceEqDiff, Nat.reduceAdd, Nat.reduceMul, Nat.reduceSub, Nat.reduceLeDiff, Nat.reduceBEq, eq_self, implies_true, ne_eq, dref, dref1, dref2, aExecS, aStoreB, aTakes, aTakeE, aElder, aFrom, aFresh, isLoad, aBuildSlice1, frzs, frz1, ownIds, AV.frz, AV.frzL, frzEnv, AV.shift, AV.shiftL, aFieldV, aSliceW, aSliceO, aSlice, aSliceR, aSliceS, aBd, aMax, frzAVs, frzAV, frzTab, AObj.frz, aMM, aNilS, aMay, aNil, aLenM, aClear, aLookup, aLookG, aMapUpd, aMapPut, keyV, aLookR, false_or, aExecU, tyE_33, tyK_33, tyK_3, tyA_46, tyS_46, tyZ_46, tyF_46_0, tyA_3, tyS_3, tyB_80, tyR_74, tyK_36, tyB_85, tyF_85_2, tyA_55, tyS_55, tyR_55, tyF_85_0, tyA_61, tyS_61] | (with_reducible refine aIf_split (fun _ => ?_) (fun _ => ?_)) | (with_reducible refine aSel_split (fun _ => ?_) (fun _ => ?_)) | (with_reducible refine aGd_split (fun _ => ?_) (fun _ => ?_))))
  refine aLoop_of (fun st => ∃ k : Nat, k ≤ l.length ∧ st = ⟨80, [(0, sInsts l), (5, .osl 0), (13, sInsts l), (14, eI (l.length : Int)), (15, eI (k : Int))], [(0, some (.row 80 9 ((l.take k).map fun x => eItm x.op)))], 1⟩) (fun st => l.length - slotN st 15) ⟨_, ((weak_nil 5 80 9 (by simp only [ruW, ASt.get, aget, ASt.put, ↓reduceIte, reduceCtorEq, Nat.reduceLT, Nat.reduceEqDiff, Nat.reduceAdd, Nat.reduceLeDiff, eq_self, implies_true, List.take_zero])).trans (weak_ren1 [0] ⟨(by decide), (by (first | ((simp only [envInR, tabInR, envLt, tabLt, AObj.lt, AV.lt, AV.ltL, AV.ren, AV.renL, AObj.ren, List.getD_cons_zero, List.getD_cons_succ, List.length_cons, List.length_nil, ruW, ASt.get, aget, ASt.put, ↓reduceIte, reduceCtorEq, Nat.reduceLT, Nat.reduceEqDiff, Nat.reduceAdd, Nat.reduceLeDiff, eq_self, implies_true, List.take_zero]) <;> (repeat' apply And.intro) <;> first | (rw [wrapK (by omega)]; done) | (simp; done) | omega) | fail))⟩)), 0, Nat.zero_le _, rfl⟩ ?_
  rintro _ ⟨k, hk, rfl⟩
  by_cases hlt : k < l.length
  · have et : (l.take (k + 1)).map (fun x => eItm x.op) = (l.take k).map (fun x => eItm x.op) ++ [[AV.c (Value.int IntKind.i64 l[k].op), AV.c (Value.string ByteArray.empty), AV.c (Value.int IntKind.i64 0), AV.c (Value.string ByteArray.empty), AV.c (Value.int IntKind.i64 0), AV.c (Value.string ByteArray.empty), AV.c (Value.string ByteArray.empty), AV.c (Value.int IntKind.i64 0), AV.c (Value.int IntKind.i64 0)]] := take_snoc _ _ hlt
    (repeat' (first | simp (maxSteps := 5000000) (implicitDefEqProofs := false) only [ruA, ruB, aEv, aTake, aLoad, aField, aIndex, aLen, aBin, bin2, aUn, un1, aExtract, aConv, ASt.get, aget, ASt.put, aStore, aBox, aAppend, aBuildSlice, aMake, aBuild, aFill, oneParts, allC, aBinS, yv, aCells, oneC, oneCL, treeC, treeL, treeML, treeM_c, treeM_sl, treeM_rp, treeM_any, treeM_fn, treeM_bfn, aLit, aDst, aSrc, appTab, Value.cells, Value.oneCell', envOf, aResL, aOne, ↓reduceIte, reduceCtorEq, forall_const, Nat.reduceLT, Nat.reduceEqDiff, Nat.reduceAdd, Nat.reduceMul, Nat.reduceSub, Nat.reduceLeDiff, Nat.reduceBEq, eq_self, implies_true, ne_eq, dref, dref1, dref2, aExecS, aStoreB, aTakes, aTakeE, aElder, aFrom, aFresh, isLoad, aBuildSlice1, frzs, frz1, ownIds, AV.frz, AV.frzL, frzEnv, AV.shift, AV.shiftL, aFieldV, aSliceW, aSliceO, aSlice, aSliceR, aSliceS, aBd, aMax, frzAVs, frzAV, frzTab, AObj.frz, aMM, aNilS, aMay, aNil, aLenM, aClear, aLookup, aLookG, aMapUpd, aMapPut, keyV, aLookR, false_or, aExecU, tyE_33, tyK_33, tyK_3, tyA_46, tyS_46, tyZ_46, tyF_46_0, tyA_3, tyS_3, tyB_80, tyR_74, tyK_36, tyB_85, tyF_85_2, tyA_55, tyS_55, tyR_55, tyF_85_0, tyA_61, tyS_61, row_at, hlt] | (with_reducible refine aIf_split (fun _ => ?_) (fun _ => ?_)) | (with_reducible refine aSel_split (fun _ => ?_) (fun _ => ?_)) | (with_reducible refine aGd_split (fun _ => ?_) (fun _ => ?_))))
    refine ⟨rfl, ⟨by simp only [List.length_take]; omega, by simp only [List.length_take]; omega⟩, roundI (weak_ren1 [3] ⟨(by decide), (by (first | ((simp only [envInR, tabInR, envLt, tabLt, AObj.lt, AV.lt, AV.ltL, AV.ren, AV.renL, AObj.ren, List.getD_cons_zero, List.getD_cons_succ, List.length_cons, List.length_nil, ruW, ASt.get, aget, ASt.put, ↓reduceIte, reduceCtorEq, Nat.reduceLT, Nat.reduceEqDiff, Nat.reduceAdd, Nat.reduceLeDiff, eq_self, implies_true, et]) <;> (repeat' apply And.intro) <;> first | (rw [wrapK (by omega)]; done) | (simp; done) | omega) | fail))⟩) ⟨k + 1, by omega, rfl⟩ (by simp only [slotN, ruW, ASt.get, aget, ASt.put, ↓reduceIte, reduceCtorEq, Nat.reduceLT, Nat.reduceEqDiff, Nat.reduceAdd, Nat.reduceLeDiff, eq_self, implies_true]; omega)⟩
  obtain rfl : k = l.length := by omega
  (repeat' (first | simp (maxSteps := 5000000) (implicitDefEqProofs := false) only [ruA, ruB, aEv, aTake, aLoad, aField, aIndex, aLen, aBin, bin2, aUn, un1, aExtract, aConv, ASt.get, aget, ASt.put, aStore, aBox, aAppend, aBuildSlice, aMake, aBuild, aFill, oneParts, allC, aBinS, yv, aCells, oneC, oneCL, treeC, treeL, treeML, treeM_c, treeM_sl, treeM_rp, treeM_any, treeM_fn, treeM_bfn, aLit, aDst, aSrc, appTab, Value.cells, Value.oneCell', envOf, aResL, aOne, ↓reduceIte, reduceCtorEq, forall_const, Nat.reduceLT, Nat.reduceEqDiff, Nat.reduceAdd, Nat.reduceMul, Nat.reduceSub, Nat.reduceLeDiff, Nat.reduceBEq, eq_self, implies_true, ne_eq, dref, dref1, dref2, aExecS, aStoreB, aTakes, aTakeE, aElder, aFrom, aFresh, isLoad, aBuildSlice1, frzs, frz1, ownIds, AV.frz, AV.frzL, frzEnv, AV.shift, AV.shiftL, aFieldV, aSliceW, aSliceO, aSlice, aSliceR, aSliceS, aBd, aMax, frzAVs, frzAV, frzTab, AObj.frz, aMM, aNilS, aMay, aNil, aLenM, aClear, aLookup, aLookG, aMapUpd, aMapPut, keyV, aLookR, false_or, aExecU, tyE_33, tyK_33, tyK_3, tyA_46, tyS_46, tyZ_46, tyF_46_0, tyA_3, tyS_3, tyB_80, tyR_74, tyK_36, tyB_85, tyF_85_2, tyA_55, tyS_55, tyR_55, tyF_85_0, tyA_61, tyS_61, row_at, hlt, List.take_length] | (with_reducible refine aIf_split (fun _ => ?_) (fun _ => ?_)) | (with_reducible refine aSel_split (fun _ => ?_) (fun _ => ?_)) | (with_reducible refine aGd_split (fun _ => ?_) (fun _ => ?_))))
  refine callV (by exact check_A l hx) ?_
  by_cases hc : checkE (l.map Inst.op) = 0
  · have ec : (checkE (l.map Inst.op) != 0) = false := by simp [hc]
    have hr : stepsR l = ⟨.tup [.sl 10 ((runS l).1.map eStp), eI (lastI (runS l).2), eI 0], [], 0⟩ := if_pos hc
    rw [hr]
    have hlen : 0 < l.length ∧ l.length ≤ 64 := by
      have := hc
      unfold checkE at this
      simp only [List.length_map] at this
      split at this
      · cases this
      · split at this
        · cases this
        · omega
    have hrow : rowN (l.map Inst.op) 0 = some 1 := by
      have := hc
      unfold checkE at this
      simp only [List.length_map] at this
      split at this
      · cases this
      · split at this
        · cases this
        · split at this
          · assumption
          · cases this
    (repeat' (first | simp (maxSteps := 5000000) (implicitDefEqProofs := false) only [ruA, ruB, aEv, aTake, aLoad, aField, aIndex, aLen, aBin, bin2, aUn, un1, aExtract, aConv, ASt.get, aget, ASt.put, aStore, aBox, aAppend, aBuildSlice, aMake, aBuild, aFill, oneParts, allC, aBinS, yv, aCells, oneC, oneCL, treeC, treeL, treeML, treeM_c, treeM_sl, treeM_rp, treeM_any, treeM_fn, treeM_bfn, aLit, aDst, aSrc, appTab, Value.cells, Value.oneCell', envOf, aResL, aOne, ↓reduceIte, reduceCtorEq, forall_const, Nat.reduceLT, Nat.reduceEqDiff, Nat.reduceAdd, Nat.reduceMul, Nat.reduceSub, Nat.reduceLeDiff, Nat.reduceBEq, eq_self, implies_true, ne_eq, dref, dref1, dref2, aExecS, aStoreB, aTakes, aTakeE, aElder, aFrom, aFresh, isLoad, aBuildSlice1, frzs, frz1, ownIds, AV.frz, AV.frzL, frzEnv, AV.shift, AV.shiftL, aFieldV, aSliceW, aSliceO, aSlice, aSliceR, aSliceS, aBd, aMax, frzAVs, frzAV, frzTab, AObj.frz, aMM, aNilS, aMay, aNil, aLenM, aClear, aLookup, aLookG, aMapUpd, aMapPut, keyV, aLookR, false_or, aExecU, tyE_33, tyK_33, tyK_3, tyA_46, tyS_46, tyZ_46, tyF_46_0, tyA_3, tyS_3, tyB_80, tyR_74, tyK_36, tyB_85, tyF_85_2, tyA_55, tyS_55, tyR_55, tyF_85_0, tyA_61, tyS_61, ec] | (with_reducible refine aIf_split (fun _ => ?_) (fun _ => ?_)) | (with_reducible refine aSel_split (fun _ => ?_) (fun _ => ?_)) | (with_reducible refine aGd_split (fun _ => ?_) (fun _ => ?_))))
    refine aLoop_of (StepsI l) (fun st => l.length - slotN st 34) ⟨_, ((weak_nilbox 2 0 71 10 (t := 85) (cells := [.c (.slice none 0 0), .osl 1, .c (.slice none 0 0)]) (by simp [ATab.get_cons]) rfl).trans ((weak_nilbox 2 2 3 1 (t := 85) (cells := [.osl 3, .osl 1, .c (.slice none 0 0)]) (by simp [ATab.get_cons]) rfl).trans (weak_ren1 [2, 3, 1, 4] ⟨(by decide), (by (first | ((simp only [envInR, tabInR, envLt, tabLt, AObj.lt, AV.lt, AV.ltL, AV.ren, AV.renL, AObj.ren, List.getD_cons_zero, List.getD_cons_succ, List.length_cons, List.length_nil, ruW, ASt.get, aget, ASt.put, ↓reduceIte, reduceCtorEq, Nat.reduceLT, Nat.reduceEqDiff, Nat.reduceAdd, Nat.reduceLeDiff, eq_self, implies_true, List.set_cons_zero, List.set_cons_succ, List.map_nil]) <;> (repeat' apply And.intro) <;> first | (rw [wrapK (by omega)]; done) | (simp; done) | omega) | fail))⟩))), 0, [], [], [], Nat.zero_le _, ⟨rfl, mapOK_nil⟩, .inl ⟨hlen.1, rfl⟩⟩ ?_
    rintro _ ⟨k, ents, L, r, hk, ⟨hrun, hme⟩, ⟨hlt, rfl⟩ | ⟨rfl, rfl⟩⟩
    · obtain ⟨hgs, hdep⟩ := runS_ok hrow hx hlen.2 k hk
      rw [hrun] at hgs hdep
      obtain ⟨d, h3, d', h4, h5⟩ := rowN_at hrow hlt
      rw [hdep] at h3
      cases h3
      have hnext := runS_take hlt
      rw [hrun] at hnext
      have hxk := hx _ (List.getElem_mem hlt)
      have hrl : r.length ≤ 100000 := by
        have := rowN_le _ _ _ hdep
        simp only [List.length_map, List.length_take] at this
        omega
      have hrl2 : r.length ≤ 64 := by
        have := rowN_le _ _ _ hdep
        simp only [List.length_map, List.length_take] at this
        omega
      (repeat' (first | simp (maxSteps := 5000000) (implicitDefEqProofs := false) only [ruA, ruB, aEv, aTake, aLoad, aField, aIndex, aLen, aBin, bin2, aUn, un1, aExtract, aConv, ASt.get, aget, ASt.put, aStore, aBox, aAppend, aBuildSlice, aMake, aBuild, aFill, oneParts, allC, aBinS, yv, aCells, oneC, oneCL, treeC, treeL, treeML, treeM_c, treeM_sl, treeM_rp, treeM_any, treeM_fn, treeM_bfn, aLit, aDst, aSrc, appTab, Value.cells, Value.oneCell', envOf, aResL, aOne, ↓reduceIte, reduceCtorEq, forall_const, Nat.reduceLT, Nat.reduceEqDiff, Nat.reduceAdd, Nat.reduceMul, Nat.reduceSub, Nat.reduceLeDiff, Nat.reduceBEq, eq_self, implies_true, ne_eq, dref, dref1, dref2, aExecS, aStoreB, aTakes, aTakeE, aElder, aFrom, aFresh, isLoad, aBuildSlice1, frzs, frz1, ownIds, AV.frz, AV.frzL, frzEnv, AV.shift, AV.shiftL, aFieldV, aSliceW, aSliceO, aSlice, aSliceR, aSliceS, aBd, aMax, frzAVs, frzAV, frzTab, AObj.frz, aMM, aNilS, aMay, aNil, aLenM, aClear, aLookup, aLookG, aMapUpd, aMapPut, keyV, aLookR, false_or, aExecU, tyE_33, tyK_33, tyK_3, tyA_46, tyS_46, tyZ_46, tyF_46_0, tyA_3, tyS_3, tyB_80, tyR_74, tyK_36, tyB_85, tyF_85_2, tyA_55, tyS_55, tyR_55, tyF_85_0, tyA_61, tyS_61, row_at, hlt] | (with_reducible refine aIf_split (fun _ => ?_) (fun _ => ?_)) | (with_reducible refine aSel_split (fun _ => ?_) (fun _ => ?_)) | (with_reducible refine aGd_split (fun _ => ?_) (fun _ => ?_))))
      refine callV (arity_A2 _) ?_
      by_cases h1 : arity l[k].op = 1
      · have e1 : (arity l[k].op == 1) = true := by simp [h1]
        obtain ⟨r, a, rfl⟩ : ∃ r' a, r = r' ++ [a] := by
          have : 1 ≤ r.length := by
            unfold pushN at h4
            rw [if_neg (by omega)] at h4
            by_cases hd : 1 ≤ r.length
            · exact hd
            · rw [if_neg (by simp [hd]), if_neg (by omega)] at h4
              cases h4
          exact ⟨_, _, concat_of this⟩
        simp only [List.length_append, List.length_singleton] at hrl hrl2
        have ha : In L a := hgs.row a (by simp)
        have estep : stepS (L, r ++ [a]) l[k] = ((oneF L l[k].op a).1, r ++ [(oneF L l[k].op a).2]) := by
          unfold stepS
          rw [if_pos h1]
          simp [lastI]
        (repeat' (first | simp (maxSteps := 5000000) (implicitDefEqProofs := false) only [ruA, ruB, aEv, aTake, aLoad, aField, aIndex, aLen, aBin, bin2, aUn, un1, aExtract, aConv, ASt.get, aget, ASt.put, aStore, aBox, aAppend, aBuildSlice, aMake, aBuild, aFill, oneParts, allC, aBinS, yv, aCells, oneC, oneCL, treeC, treeL, treeML, treeM_c, treeM_sl, treeM_rp, treeM_any, treeM_fn, treeM_bfn, aLit, aDst, aSrc, appTab, Value.cells, Value.oneCell', envOf, aResL, aOne, ↓reduceIte, reduceCtorEq, forall_const, Nat.reduceLT, Nat.reduceEqDiff, Nat.reduceAdd, Nat.reduceMul, Nat.reduceSub, Nat.reduceLeDiff, Nat.reduceBEq, eq_self, implies_true, ne_eq, dref, dref1, dref2, aExecS, aStoreB, aTakes, aTakeE, aElder, aFrom, aFresh, isLoad, aBuildSlice1, frzs, frz1, ownIds, AV.frz, AV.frzL, frzEnv, AV.shift, AV.shiftL, aFieldV, aSliceW, aSliceO, aSlice, aSliceR, aSliceS, aBd, aMax, frzAVs, frzAV, frzTab, AObj.frz, aMM, aNilS, aMay, aNil, aLenM, aClear, aLookup, aLookG, aMapUpd, aMapPut, keyV, aLookR, false_or, aExecU, tyE_33, tyK_33, tyK_3, tyA_46, tyS_46, tyZ_46, tyF_46_0, tyA_3, tyS_3, tyB_80, tyR_74, tyK_36, tyB_85, tyF_85_2, tyA_55, tyS_55, tyR_55, tyF_85_0, tyA_61, tyS_61, e1] | (with_reducible refine aIf_split (fun _ => ?_) (fun _ => ?_)) | (with_reducible refine aSel_split (fun _ => ?_) (fun _ => ?_)) | (with_reducible refine aGd_split (fun _ => ?_) (fun _ => ?_))))
        refine aDraw_held [0, 1, 2, 3] [0, 1, 2, 3] (.exec 4 (.exec 5 (.exec 6 .done))) (by kernel_rfl) (by simp [ATab.get_cons]) ?_
        (repeat' (first | simp (maxSteps := 5000000) (implicitDefEqProofs := false) only [ruA, ruB, aEv, aTake, aLoad, aField, aIndex, aLen, aBin, bin2, aUn, un1, aExtract, aConv, ASt.get, aget, ASt.put, aStore, aBox, aAppend, aBuildSlice, aMake, aBuild, aFill, oneParts, allC, aBinS, yv, aCells, oneC, oneCL, treeC, treeL, treeML, treeM_c, treeM_sl, treeM_rp, treeM_any, treeM_fn, treeM_bfn, aLit, aDst, aSrc, appTab, Value.cells, Value.oneCell', envOf, aResL, aOne, ↓reduceIte, reduceCtorEq, forall_const, Nat.reduceLT, Nat.reduceEqDiff, Nat.reduceAdd, Nat.reduceMul, Nat.reduceSub, Nat.reduceLeDiff, Nat.reduceBEq, eq_self, implies_true, ne_eq, dref, dref1, dref2, aExecS, aStoreB, aTakes, aTakeE, aElder, aFrom, aFresh, isLoad, aBuildSlice1, frzs, frz1, ownIds, AV.frz, AV.frzL, frzEnv, AV.shift, AV.shiftL, aFieldV, aSliceW, aSliceO, aSlice, aSliceR, aSliceS, aBd, aMax, frzAVs, frzAV, frzTab, AObj.frz, aMM, aNilS, aMay, aNil, aLenM, aClear, aLookup, aLookG, aMapUpd, aMapPut, keyV, aLookR, false_or, aExecU, tyE_33, tyK_33, tyK_3, tyA_46, tyS_46, tyZ_46, tyF_46_0, tyA_3, tyS_3, tyB_80, tyR_74, tyK_36, tyB_85, tyF_85_2, tyA_55, tyS_55, tyR_55, tyF_85_0, tyA_61, tyS_61] | (with_reducible refine aIf_split (fun _ => ?_) (fun _ => ?_)) | (with_reducible refine aSel_split (fun _ => ?_) (fun _ => ?_)) | (with_reducible refine aGd_split (fun _ => ?_) (fun _ => ?_))))
        refine callMk (pop_M r (by omega)) (by assumption) (by simp [roL, roA, treeL, treeC]) rfl rfl rfl rfl (by decide) (by rintro p hp; cases hp; simp [aMay]) fun ents1 hm1 => ?_
        (repeat' (first | simp (maxSteps := 5000000) (implicitDefEqProofs := false) only [ruA, ruB, aEv, aTake, aLoad, aField, aIndex, aLen, aBin, bin2, aUn, un1, aExtract, aConv, ASt.get, aget, ASt.put, aStore, aBox, aAppend, aBuildSlice, aMake, aBuild, aFill, oneParts, allC, aBinS, yv, aCells, oneC, oneCL, treeC, treeL, treeML, treeM_c, treeM_sl, treeM_rp, treeM_any, treeM_fn, treeM_bfn, aLit, aDst, aSrc, appTab, Value.cells, Value.oneCell', envOf, aResL, aOne, ↓reduceIte, reduceCtorEq, forall_const, Nat.reduceLT, Nat.reduceEqDiff, Nat.reduceAdd, Nat.reduceMul, Nat.reduceSub, Nat.reduceLeDiff, Nat.reduceBEq, eq_self, implies_true, ne_eq, dref, dref1, dref2, aExecS, aStoreB, aTakes, aTakeE, aElder, aFrom, aFresh, isLoad, aBuildSlice1, frzs, frz1, ownIds, AV.frz, AV.frzL, frzEnv, AV.shift, AV.shiftL, aFieldV, aSliceW, aSliceO, aSlice, aSliceR, aSliceS, aBd, aMax, frzAVs, frzAV, frzTab, AObj.frz, aMM, aNilS, aMay, aNil, aLenM, aClear, aLookup, aLookG, aMapUpd, aMapPut, keyV, aLookR, false_or, aExecU, tyE_33, tyK_33, tyK_3, tyA_46, tyS_46, tyZ_46, tyF_46_0, tyA_3, tyS_3, tyB_80, tyR_74, tyK_36, tyB_85, tyF_85_2, tyA_55, tyS_55, tyR_55, tyF_85_0, tyA_61, tyS_61] | (with_reducible refine aIf_split (fun _ => ?_) (fun _ => ?_)) | (with_reducible refine aSel_split (fun _ => ?_) (fun _ => ?_)) | (with_reducible refine aGd_split (fun _ => ?_) (fun _ => ?_))))
        refine callMk (one_M (op := l[k].op) r hgs.good ha (by omega)) (by assumption) (by simp [roL, roA, treeL, treeC]) rfl rfl rfl rfl (by decide) (by rintro p hp; cases hp; simp [aMay]) fun ents2 hm2 => ?_
        (repeat' (first | simp (maxSteps := 5000000) (implicitDefEqProofs := false) only [ruA, ruB, aEv, aTake, aLoad, aField, aIndex, aLen, aBin, bin2, aUn, un1, aExtract, aConv, ASt.get, aget, ASt.put, aStore, aBox, aAppend, aBuildSlice, aMake, aBuild, aFill, oneParts, allC, aBinS, yv, aCells, oneC, oneCL, treeC, treeL, treeML, treeM_c, treeM_sl, treeM_rp, treeM_any, treeM_fn, treeM_bfn, aLit, aDst, aSrc, appTab, Value.cells, Value.oneCell', envOf, aResL, aOne, ↓reduceIte, reduceCtorEq, forall_const, Nat.reduceLT, Nat.reduceEqDiff, Nat.reduceAdd, Nat.reduceMul, Nat.reduceSub, Nat.reduceLeDiff, Nat.reduceBEq, eq_self, implies_true, ne_eq, dref, dref1, dref2, aExecS, aStoreB, aTakes, aTakeE, aElder, aFrom, aFresh, isLoad, aBuildSlice1, frzs, frz1, ownIds, AV.frz, AV.frzL, frzEnv, AV.shift, AV.shiftL, aFieldV, aSliceW, aSliceO, aSlice, aSliceR, aSliceS, aBd, aMax, frzAVs, frzAV, frzTab, AObj.frz, aMM, aNilS, aMay, aNil, aLenM, aClear, aLookup, aLookG, aMapUpd, aMapPut, keyV, aLookR, false_or, aExecU, tyE_33, tyK_33, tyK_3, tyA_46, tyS_46, tyZ_46, tyF_46_0, tyA_3, tyS_3, tyB_80, tyR_74, tyK_36, tyB_85, tyF_85_2, tyA_55, tyS_55, tyR_55, tyF_85_0, tyA_61, tyS_61, List.length_map, List.length_append] | (with_reducible refine aIf_split (fun _ => ?_) (fun _ => ?_)) | (with_reducible refine aSel_split (fun _ => ?_) (fun _ => ?_)) | (with_reducible refine aGd_split (fun _ => ?_) (fun _ => ?_))))
        refine ⟨rfl, ⟨by omega, by omega⟩, ?_⟩
        exact steps_round hlt (by rw [hnext]; exact estep) hm2 (weak_ren1 [0, 8, 9, 12] ⟨(by decide), (by (first | ((simp only [envInR, tabInR, envLt, tabLt, AObj.lt, AV.lt, AV.ltL, AV.ren, AV.renL, AObj.ren, List.getD_cons_zero, List.getD_cons_succ, List.length_cons, List.length_nil, ruW, ASt.get, aget, ASt.put, ↓reduceIte, reduceCtorEq, Nat.reduceLT, Nat.reduceEqDiff, Nat.reduceAdd, Nat.reduceLeDiff, eq_self, implies_true, List.map_append, List.map_cons, List.map_nil]) <;> (repeat' apply And.intro) <;> first | (rw [wrapK (by omega)]; done) | (simp; done) | omega) | fail))⟩) (by simp only [slotN, ASt.get, aget, ↓reduceIte, Nat.reduceLT, Nat.reduceEqDiff]; omega)
      by_cases h2 : arity l[k].op = 2
      · have e1 : (arity l[k].op == 1) = false := by simp [h1]
        have e2 : (arity l[k].op == 2) = true := by simp [h2]
        obtain ⟨r, a, b, rfl⟩ : ∃ r' a b, r = (r' ++ [a]) ++ [b] := by
          have : 2 ≤ r.length := by
            unfold pushN at h4
            rw [if_neg (by omega), if_neg (by omega)] at h4
            by_cases hd : 2 ≤ r.length
            · exact hd
            · rw [if_neg (by simp [hd])] at h4
              cases h4
          exact ⟨r.dropLast.dropLast, lastI r.dropLast, lastI r, by
            rw [← concat_of (r := r.dropLast) (by simp; omega)]
            exact concat_of (by omega)⟩
        simp only [List.length_append, List.length_singleton] at hrl hrl2
        have ha : In L a := hgs.row a (by simp)
        have hb : In L b := hgs.row b (by simp)
        have estep : stepS (L, (r ++ [a]) ++ [b]) l[k] = ((twoF L l[k].op a b).1, r ++ [(twoF L l[k].op a b).2]) := by
          unfold stepS
          rw [if_neg h1, if_pos h2]
          simp [lastI]
        (repeat' (first | simp (maxSteps := 5000000) (implicitDefEqProofs := false) only [ruA, ruB, aEv, aTake, aLoad, aField, aIndex, aLen, aBin, bin2, aUn, un1, aExtract, aConv, ASt.get, aget, ASt.put, aStore, aBox, aAppend, aBuildSlice, aMake, aBuild, aFill, oneParts, allC, aBinS, yv, aCells, oneC, oneCL, treeC, treeL, treeML, treeM_c, treeM_sl, treeM_rp, treeM_any, treeM_fn, treeM_bfn, aLit, aDst, aSrc, appTab, Value.cells, Value.oneCell', envOf, aResL, aOne, ↓reduceIte, reduceCtorEq, forall_const, Nat.reduceLT, Nat.reduceEqDiff, Nat.reduceAdd, Nat.reduceMul, Nat.reduceSub, Nat.reduceLeDiff, Nat.reduceBEq, eq_self, implies_true, ne_eq, dref, dref1, dref2, aExecS, aStoreB, aTakes, aTakeE, aElder, aFrom, aFresh, isLoad, aBuildSlice1, frzs, frz1, ownIds, AV.frz, AV.frzL, frzEnv, AV.shift, AV.shiftL, aFieldV, aSliceW, aSliceO, aSlice, aSliceR, aSliceS, aBd, aMax, frzAVs, frzAV, frzTab, AObj.frz, aMM, aNilS, aMay, aNil, aLenM, aClear, aLookup, aLookG, aMapUpd, aMapPut, keyV, aLookR, false_or, aExecU, tyE_33, tyK_33, tyK_3, tyA_46, tyS_46, tyZ_46, tyF_46_0, tyA_3, tyS_3, tyB_80, tyR_74, tyK_36, tyB_85, tyF_85_2, tyA_55, tyS_55, tyR_55, tyF_85_0, tyA_61, tyS_61, e1, e2] | (with_reducible refine aIf_split (fun _ => ?_) (fun _ => ?_)) | (with_reducible refine aSel_split (fun _ => ?_) (fun _ => ?_)) | (with_reducible refine aGd_split (fun _ => ?_) (fun _ => ?_))))
        refine callMk (pop_M (r ++ [a]) (by simp; omega)) (by assumption) (by simp [roL, roA, treeL, treeC]) rfl rfl rfl rfl (by decide) (fun p hp => by cases hp) fun ents1 hm1 => ?_
        (repeat' (first | simp (maxSteps := 5000000) (implicitDefEqProofs := false) only [ruA, ruB, aEv, aTake, aLoad, aField, aIndex, aLen, aBin, bin2, aUn, un1, aExtract, aConv, ASt.get, aget, ASt.put, aStore, aBox, aAppend, aBuildSlice, aMake, aBuild, aFill, oneParts, allC, aBinS, yv, aCells, oneC, oneCL, treeC, treeL, treeML, treeM_c, treeM_sl, treeM_rp, treeM_any, treeM_fn, treeM_bfn, aLit, aDst, aSrc, appTab, Value.cells, Value.oneCell', envOf, aResL, aOne, ↓reduceIte, reduceCtorEq, forall_const, Nat.reduceLT, Nat.reduceEqDiff, Nat.reduceAdd, Nat.reduceMul, Nat.reduceSub, Nat.reduceLeDiff, Nat.reduceBEq, eq_self, implies_true, ne_eq, dref, dref1, dref2, aExecS, aStoreB, aTakes, aTakeE, aElder, aFrom, aFresh, isLoad, aBuildSlice1, frzs, frz1, ownIds, AV.frz, AV.frzL, frzEnv, AV.shift, AV.shiftL, aFieldV, aSliceW, aSliceO, aSlice, aSliceR, aSliceS, aBd, aMax, frzAVs, frzAV, frzTab, AObj.frz, aMM, aNilS, aMay, aNil, aLenM, aClear, aLookup, aLookG, aMapUpd, aMapPut, keyV, aLookR, false_or, aExecU, tyE_33, tyK_33, tyK_3, tyA_46, tyS_46, tyZ_46, tyF_46_0, tyA_3, tyS_3, tyB_80, tyR_74, tyK_36, tyB_85, tyF_85_2, tyA_55, tyS_55, tyR_55, tyF_85_0, tyA_61, tyS_61] | (with_reducible refine aIf_split (fun _ => ?_) (fun _ => ?_)) | (with_reducible refine aSel_split (fun _ => ?_) (fun _ => ?_)) | (with_reducible refine aGd_split (fun _ => ?_) (fun _ => ?_))))
        refine aDraw_held [0, 5, 6, 7] [0, 1, 2, 3, 5] (.exec 4 (.exec 6 (.exec 7 .done))) (by kernel_rfl) (by simp [ATab.get_cons]) ?_
        (repeat' (first | simp (maxSteps := 5000000) (implicitDefEqProofs := false) only [ruA, ruB, aEv, aTake, aLoad, aField, aIndex, aLen, aBin, bin2, aUn, un1, aExtract, aConv, ASt.get, aget, ASt.put, aStore, aBox, aAppend, aBuildSlice, aMake, aBuild, aFill, oneParts, allC, aBinS, yv, aCells, oneC, oneCL, treeC, treeL, treeML, treeM_c, treeM_sl, treeM_rp, treeM_any, treeM_fn, treeM_bfn, aLit, aDst, aSrc, appTab, Value.cells, Value.oneCell', envOf, aResL, aOne, ↓reduceIte, reduceCtorEq, forall_const, Nat.reduceLT, Nat.reduceEqDiff, Nat.reduceAdd, Nat.reduceMul, Nat.reduceSub, Nat.reduceLeDiff, Nat.reduceBEq, eq_self, implies_true, ne_eq, dref, dref1, dref2, aExecS, aStoreB, aTakes, aTakeE, aElder, aFrom, aFresh, isLoad, aBuildSlice1, frzs, frz1, ownIds, AV.frz, AV.frzL, frzEnv, AV.shift, AV.shiftL, aFieldV, aSliceW, aSliceO, aSlice, aSliceR, aSliceS, aBd, aMax, frzAVs, frzAV, frzTab, AObj.frz, aMM, aNilS, aMay, aNil, aLenM, aClear, aLookup, aLookG, aMapUpd, aMapPut, keyV, aLookR, false_or, aExecU, tyE_33, tyK_33, tyK_3, tyA_46, tyS_46, tyZ_46, tyF_46_0, tyA_3, tyS_3, tyB_80, tyR_74, tyK_36, tyB_85, tyF_85_2, tyA_55, tyS_55, tyR_55, tyF_85_0, tyA_61, tyS_61] | (with_reducible refine aIf_split (fun _ => ?_) (fun _ => ?_)) | (with_reducible refine aSel_split (fun _ => ?_) (fun _ => ?_)) | (with_reducible refine aGd_split (fun _ => ?_) (fun _ => ?_))))
        refine callMk (pop_M r (by omega)) (by assumption) (by simp [roL, roA, treeL, treeC]) rfl rfl rfl rfl (by decide) (by rintro p hp; cases hp; simp [aMay]) fun ents2 hm2 => ?_
        (repeat' (first | simp (maxSteps := 5000000) (implicitDefEqProofs := false) only [ruA, ruB, aEv, aTake, aLoad, aField, aIndex, aLen, aBin, bin2, aUn, un1, aExtract, aConv, ASt.get, aget, ASt.put, aStore, aBox, aAppend, aBuildSlice, aMake, aBuild, aFill, oneParts, allC, aBinS, yv, aCells, oneC, oneCL, treeC, treeL, treeML, treeM_c, treeM_sl, treeM_rp, treeM_any, treeM_fn, treeM_bfn, aLit, aDst, aSrc, appTab, Value.cells, Value.oneCell', envOf, aResL, aOne, ↓reduceIte, reduceCtorEq, forall_const, Nat.reduceLT, Nat.reduceEqDiff, Nat.reduceAdd, Nat.reduceMul, Nat.reduceSub, Nat.reduceLeDiff, Nat.reduceBEq, eq_self, implies_true, ne_eq, dref, dref1, dref2, aExecS, aStoreB, aTakes, aTakeE, aElder, aFrom, aFresh, isLoad, aBuildSlice1, frzs, frz1, ownIds, AV.frz, AV.frzL, frzEnv, AV.shift, AV.shiftL, aFieldV, aSliceW, aSliceO, aSlice, aSliceR, aSliceS, aBd, aMax, frzAVs, frzAV, frzTab, AObj.frz, aMM, aNilS, aMay, aNil, aLenM, aClear, aLookup, aLookG, aMapUpd, aMapPut, keyV, aLookR, false_or, aExecU, tyE_33, tyK_33, tyK_3, tyA_46, tyS_46, tyZ_46, tyF_46_0, tyA_3, tyS_3, tyB_80, tyR_74, tyK_36, tyB_85, tyF_85_2, tyA_55, tyS_55, tyR_55, tyF_85_0, tyA_61, tyS_61] | (with_reducible refine aIf_split (fun _ => ?_) (fun _ => ?_)) | (with_reducible refine aSel_split (fun _ => ?_) (fun _ => ?_)) | (with_reducible refine aGd_split (fun _ => ?_) (fun _ => ?_))))
        refine callMk (two_M (op := l[k].op) r hgs.good ha hb (by omega)) (by assumption) (by simp [roL, roA, treeL, treeC]) rfl rfl rfl rfl (by decide) (by rintro p hp; cases hp; simp [aMay]) fun ents3 hm3 => ?_
        (repeat' (first | simp (maxSteps := 5000000) (implicitDefEqProofs := false) only [ruA, ruB, aEv, aTake, aLoad, aField, aIndex, aLen, aBin, bin2, aUn, un1, aExtract, aConv, ASt.get, aget, ASt.put, aStore, aBox, aAppend, aBuildSlice, aMake, aBuild, aFill, oneParts, allC, aBinS, yv, aCells, oneC, oneCL, treeC, treeL, treeML, treeM_c, treeM_sl, treeM_rp, treeM_any, treeM_fn, treeM_bfn, aLit, aDst, aSrc, appTab, Value.cells, Value.oneCell', envOf, aResL, aOne, ↓reduceIte, reduceCtorEq, forall_const, Nat.reduceLT, Nat.reduceEqDiff, Nat.reduceAdd, Nat.reduceMul, Nat.reduceSub, Nat.reduceLeDiff, Nat.reduceBEq, eq_self, implies_true, ne_eq, dref, dref1, dref2, aExecS, aStoreB, aTakes, aTakeE, aElder, aFrom, aFresh, isLoad, aBuildSlice1, frzs, frz1, ownIds, AV.frz, AV.frzL, frzEnv, AV.shift, AV.shiftL, aFieldV, aSliceW, aSliceO, aSlice, aSliceR, aSliceS, aBd, aMax, frzAVs, frzAV, frzTab, AObj.frz, aMM, aNilS, aMay, aNil, aLenM, aClear, aLookup, aLookG, aMapUpd, aMapPut, keyV, aLookR, false_or, aExecU, tyE_33, tyK_33, tyK_3, tyA_46, tyS_46, tyZ_46, tyF_46_0, tyA_3, tyS_3, tyB_80, tyR_74, tyK_36, tyB_85, tyF_85_2, tyA_55, tyS_55, tyR_55, tyF_85_0, tyA_61, tyS_61, List.length_map, List.length_append] | (with_reducible refine aIf_split (fun _ => ?_) (fun _ => ?_)) | (with_reducible refine aSel_split (fun _ => ?_) (fun _ => ?_)) | (with_reducible refine aGd_split (fun _ => ?_) (fun _ => ?_))))
        refine ⟨rfl, ⟨by omega, by omega⟩, ?_⟩
        exact steps_round hlt (by rw [hnext]; exact estep) hm3 (weak_ren1 [0, 11, 12, 15] ⟨(by decide), (by (first | ((simp only [envInR, tabInR, envLt, tabLt, AObj.lt, AV.lt, AV.ltL, AV.ren, AV.renL, AObj.ren, List.getD_cons_zero, List.getD_cons_succ, List.length_cons, List.length_nil, ruW, ASt.get, aget, ASt.put, ↓reduceIte, reduceCtorEq, Nat.reduceLT, Nat.reduceEqDiff, Nat.reduceAdd, Nat.reduceLeDiff, eq_self, implies_true, List.map_append, List.map_cons, List.map_nil]) <;> (repeat' apply And.intro) <;> first | (rw [wrapK (by omega)]; done) | (simp; done) | omega) | fail))⟩) (by simp only [slotN, ASt.get, aget, ↓reduceIte, Nat.reduceLT, Nat.reduceEqDiff]; omega)
      have e1 : (arity l[k].op == 1) = false := by simp [h1]
      have e2 : (arity l[k].op == 2) = false := by simp [h2]
      have h15 : 1 ≤ l[k].op ∧ l[k].op ≤ 14 := by
        unfold pushN at h4
        by_cases h0 : arity l[k].op = 0
        · exact arity0 h0
        · rw [if_neg h0, if_neg (by simp [h1]), if_neg (by simp [h2])] at h4
          cases h4
      have estep : stepS (L, r) l[k] = ((mkF L (stI l[k])).1, r ++ [(mkF L (stI l[k])).2]) := by
        unfold stepS
        rw [if_neg h1, if_neg h2]
      (repeat' (first | simp (maxSteps := 5000000) (implicitDefEqProofs := false) only [ruA, ruB, aEv, aTake, aLoad, aField, aIndex, aLen, aBin, bin2, aUn, un1, aExtract, aConv, ASt.get, aget, ASt.put, aStore, aBox, aAppend, aBuildSlice, aMake, aBuild, aFill, oneParts, allC, aBinS, yv, aCells, oneC, oneCL, treeC, treeL, treeML, treeM_c, treeM_sl, treeM_rp, treeM_any, treeM_fn, treeM_bfn, aLit, aDst, aSrc, appTab, Value.cells, Value.oneCell', envOf, aResL, aOne, ↓reduceIte, reduceCtorEq, forall_const, Nat.reduceLT, Nat.reduceEqDiff, Nat.reduceAdd, Nat.reduceMul, Nat.reduceSub, Nat.reduceLeDiff, Nat.reduceBEq, eq_self, implies_true, ne_eq, dref, dref1, dref2, aExecS, aStoreB, aTakes, aTakeE, aElder, aFrom, aFresh, isLoad, aBuildSlice1, frzs, frz1, ownIds, AV.frz, AV.frzL, frzEnv, AV.shift, AV.shiftL, aFieldV, aSliceW, aSliceO, aSlice, aSliceR, aSliceS, aBd, aMax, frzAVs, frzAV, frzTab, AObj.frz, aMM, aNilS, aMay, aNil, aLenM, aClear, aLookup, aLookG, aMapUpd, aMapPut, keyV, aLookR, false_or, aExecU, tyE_33, tyK_33, tyK_3, tyA_46, tyS_46, tyZ_46, tyF_46_0, tyA_3, tyS_3, tyB_80, tyR_74, tyK_36, tyB_85, tyF_85_2, tyA_55, tyS_55, tyR_55, tyF_85_0, tyA_61, tyS_61, e1, e2] | (with_reducible refine aIf_split (fun _ => ?_) (fun _ => ?_)) | (with_reducible refine aSel_split (fun _ => ?_) (fun _ => ?_)) | (with_reducible refine aGd_split (fun _ => ?_) (fun _ => ?_))))
      refine callMk (atom_M r hgs.good hxk h15) (by assumption) (by simp [roL, roA, treeL, treeC]) rfl rfl rfl rfl (by decide) (fun p hp => by cases hp) fun ents1 hm1 => ?_
      (repeat' (first | simp (maxSteps := 5000000) (implicitDefEqProofs := false) only [ruA, ruB, aEv, aTake, aLoad, aField, aIndex, aLen, aBin, bin2, aUn, un1, aExtract, aConv, ASt.get, aget, ASt.put, aStore, aBox, aAppend, aBuildSlice, aMake, aBuild, aFill, oneParts, allC, aBinS, yv, aCells, oneC, oneCL, treeC, treeL, treeML, treeM_c, treeM_sl, treeM_rp, treeM_any, treeM_fn, treeM_bfn, aLit, aDst, aSrc, appTab, Value.cells, Value.oneCell', envOf, aResL, aOne, ↓reduceIte, reduceCtorEq, forall_const, Nat.reduceLT, Nat.reduceEqDiff, Nat.reduceAdd, Nat.reduceMul, Nat.reduceSub, Nat.reduceLeDiff, Nat.reduceBEq, eq_self, implies_true, ne_eq, dref, dref1, dref2, aExecS, aStoreB, aTakes, aTakeE, aElder, aFrom, aFresh, isLoad, aBuildSlice1, frzs, frz1, ownIds, AV.frz, AV.frzL, frzEnv, AV.shift, AV.shiftL, aFieldV, aSliceW, aSliceO, aSlice, aSliceR, aSliceS, aBd, aMax, frzAVs, frzAV, frzTab, AObj.frz, aMM, aNilS, aMay, aNil, aLenM, aClear, aLookup, aLookG, aMapUpd, aMapPut, keyV, aLookR, false_or, aExecU, tyE_33, tyK_33, tyK_3, tyA_46, tyS_46, tyZ_46, tyF_46_0, tyA_3, tyS_3, tyB_80, tyR_74, tyK_36, tyB_85, tyF_85_2, tyA_55, tyS_55, tyR_55, tyF_85_0, tyA_61, tyS_61, List.length_map, List.length_append] | (with_reducible refine aIf_split (fun _ => ?_) (fun _ => ?_)) | (with_reducible refine aSel_split (fun _ => ?_) (fun _ => ?_)) | (with_reducible refine aGd_split (fun _ => ?_) (fun _ => ?_))))
      refine ⟨rfl, ⟨by omega, by omega⟩, ?_⟩
      exact steps_round hlt (by rw [hnext]; exact estep) hm1 (weak_ren1 [0, 5, 6, 9] ⟨(by decide), (by (first | ((simp only [envInR, tabInR, envLt, tabLt, AObj.lt, AV.lt, AV.ltL, AV.ren, AV.renL, AObj.ren, List.getD_cons_zero, List.getD_cons_succ, List.length_cons, List.length_nil, ruW, ASt.get, aget, ASt.put, ↓reduceIte, reduceCtorEq, Nat.reduceLT, Nat.reduceEqDiff, Nat.reduceAdd, Nat.reduceLeDiff, eq_self, implies_true, List.map_append, List.map_cons, List.map_nil]) <;> (repeat' apply And.intro) <;> first | (rw [wrapK (by omega)]; done) | (simp; done) | omega) | fail))⟩) (by simp only [slotN, ASt.get, aget, ↓reduceIte, Nat.reduceLT, Nat.reduceEqDiff]; omega)
    · have hlt : ¬ l.length < l.length := by omega
      have hdep := (runS_ok hrow hx hlen.2 l.length (Nat.le_refl _)).2
      rw [List.take_length] at hrun hdep
      rw [hrow, hrun] at hdep
      obtain ⟨x, rfl⟩ : ∃ x, r = [] ++ [x] := by
        have h1 : r.length = 1 := by simpa using hdep.symm
        exact ⟨r[0], by
          apply List.ext_getElem (by simpa using h1)
          intro i h2 h3
          have : i = 0 := by omega
          subst this
          rfl⟩
      rw [hrun]
      (repeat' (first | simp (maxSteps := 5000000) (implicitDefEqProofs := false) only [ruA, ruB, aEv, aTake, aLoad, aField, aIndex, aLen, aBin, bin2, aUn, un1, aExtract, aConv, ASt.get, aget, ASt.put, aStore, aBox, aAppend, aBuildSlice, aMake, aBuild, aFill, oneParts, allC, aBinS, yv, aCells, oneC, oneCL, treeC, treeL, treeML, treeM_c, treeM_sl, treeM_rp, treeM_any, treeM_fn, treeM_bfn, aLit, aDst, aSrc, appTab, Value.cells, Value.oneCell', envOf, aResL, aOne, ↓reduceIte, reduceCtorEq, forall_const, Nat.reduceLT, Nat.reduceEqDiff, Nat.reduceAdd, Nat.reduceMul, Nat.reduceSub, Nat.reduceLeDiff, Nat.reduceBEq, eq_self, implies_true, ne_eq, dref, dref1, dref2, aExecS, aStoreB, aTakes, aTakeE, aElder, aFrom, aFresh, isLoad, aBuildSlice1, frzs, frz1, ownIds, AV.frz, AV.frzL, frzEnv, AV.shift, AV.shiftL, aFieldV, aSliceW, aSliceO, aSlice, aSliceR, aSliceS, aBd, aMax, frzAVs, frzAV, frzTab, AObj.frz, aMM, aNilS, aMay, aNil, aLenM, aClear, aLookup, aLookG, aMapUpd, aMapPut, keyV, aLookR, false_or, aExecU, tyE_33, tyK_33, tyK_3, tyA_46, tyS_46, tyZ_46, tyF_46_0, tyA_3, tyS_3, tyB_80, tyR_74, tyK_36, tyB_85, tyF_85_2, tyA_55, tyS_55, tyR_55, tyF_85_0, tyA_61, tyS_61, row_at, hlt] | (with_reducible refine aIf_split (fun _ => ?_) (fun _ => ?_)) | (with_reducible refine aSel_split (fun _ => ?_) (fun _ => ?_)) | (with_reducible refine aGd_split (fun _ => ?_) (fun _ => ?_))))
      refine aDraw_held [0, 1, 2] [0, 1, 2, 4] (.two 3 (.exec 5 (.exec 6 (.exec 7 (.exec 8 .done)))) 5 (.exec 3 (.exec 6 (.exec 7 (.exec 8 .done))))) (by kernel_rfl) (by simp [ATab.get_cons]) ?_
      (repeat' (first | simp (maxSteps := 5000000) (implicitDefEqProofs := false) only [ruA, ruB, aEv, aTake, aLoad, aField, aIndex, aLen, aBin, bin2, aUn, un1, aExtract, aConv, ASt.get, aget, ASt.put, aStore, aBox, aAppend, aBuildSlice, aMake, aBuild, aFill, oneParts, allC, aBinS, yv, aCells, oneC, oneCL, treeC, treeL, treeML, treeM_c, treeM_sl, treeM_rp, treeM_any, treeM_fn, treeM_bfn, aLit, aDst, aSrc, appTab, Value.cells, Value.oneCell', envOf, aResL, aOne, ↓reduceIte, reduceCtorEq, forall_const, Nat.reduceLT, Nat.reduceEqDiff, Nat.reduceAdd, Nat.reduceMul, Nat.reduceSub, Nat.reduceLeDiff, Nat.reduceBEq, eq_self, implies_true, ne_eq, dref, dref1, dref2, aExecS, aStoreB, aTakes, aTakeE, aElder, aFrom, aFresh, isLoad, aBuildSlice1, frzs, frz1, ownIds, AV.frz, AV.frzL, frzEnv, AV.shift, AV.shiftL, aFieldV, aSliceW, aSliceO, aSlice, aSliceR, aSliceS, aBd, aMax, frzAVs, frzAV, frzTab, AObj.frz, aMM, aNilS, aMay, aNil, aLenM, aClear, aLookup, aLookG, aMapUpd, aMapPut, keyV, aLookR, false_or, aExecU, tyE_33, tyK_33, tyK_3, tyA_46, tyS_46, tyZ_46, tyF_46_0, tyA_3, tyS_3, tyB_80, tyR_74, tyK_36, tyB_85, tyF_85_2, tyA_55, tyS_55, tyR_55, tyF_85_0, tyA_61, tyS_61] | (with_reducible refine aIf_split (fun _ => ?_) (fun _ => ?_)) | (with_reducible refine aSel_split (fun _ => ?_) (fun _ => ?_)) | (with_reducible refine aGd_split (fun _ => ?_) (fun _ => ?_))))
      refine ⟨?_, ?_⟩
      all_goals
        refine callMth [1, 2] (pop_F (L.map eStp) ents [] (by simp)) (by simp [roL]) (by simp [ATab.get_cons, AV.renL, AV.ren]) ⟨⟨rfl, trivial⟩, ⟨rfl, trivial⟩, trivial⟩ (by decide) (by rintro p hp; cases hp; simp [aMay]) ?_
        rintro av cells' objs' ⟨rfl, rfl, rfl⟩
        (repeat' (first | simp (maxSteps := 5000000) (implicitDefEqProofs := false) only [ruA, ruB, aEv, aTake, aLoad, aField, aIndex, aLen, aBin, bin2, aUn, un1, aExtract, aConv, ASt.get, aget, ASt.put, aStore, aBox, aAppend, aBuildSlice, aMake, aBuild, aFill, oneParts, allC, aBinS, yv, aCells, oneC, oneCL, treeC, treeL, treeML, treeM_c, treeM_sl, treeM_rp, treeM_any, treeM_fn, treeM_bfn, aLit, aDst, aSrc, appTab, Value.cells, Value.oneCell', envOf, aResL, aOne, ↓reduceIte, reduceCtorEq, forall_const, Nat.reduceLT, Nat.reduceEqDiff, Nat.reduceAdd, Nat.reduceMul, Nat.reduceSub, Nat.reduceLeDiff, Nat.reduceBEq, eq_self, implies_true, ne_eq, dref, dref1, dref2, aExecS, aStoreB, aTakes, aTakeE, aElder, aFrom, aFresh, isLoad, aBuildSlice1, frzs, frz1, ownIds, AV.frz, AV.frzL, frzEnv, AV.shift, AV.shiftL, aFieldV, aSliceW, aSliceO, aSlice, aSliceR, aSliceS, aBd, aMax, frzAVs, frzAV, frzTab, AObj.frz, aMM, aNilS, aMay, aNil, aLenM, aClear, aLookup, aLookG, aMapUpd, aMapPut, keyV, aLookR, false_or, aExecU, tyE_33, tyK_33, tyK_3, tyA_46, tyS_46, tyZ_46, tyF_46_0, tyA_3, tyS_3, tyB_80, tyR_74, tyK_36, tyB_85, tyF_85_2, tyA_55, tyS_55, tyR_55, tyF_85_0, tyA_61, tyS_61, aMethTab, tabN, AV.renL, AV.ren] | (with_reducible refine aIf_split (fun _ => ?_) (fun _ => ?_)) | (with_reducible refine aSel_split (fun _ => ?_) (fun _ => ?_)) | (with_reducible refine aGd_split (fun _ => ?_) (fun _ => ?_))))
        exact givesT rfl
  · have ec : (checkE (l.map Inst.op) != 0) = true := by simp [hc]
    have hr : stepsR l = ⟨.tup [.c (.slice none 0 0), eI 0, eI 17], [], 0⟩ := if_neg hc
    rw [hr]
    (repeat' (first | simp (maxSteps := 5000000) (implicitDefEqProofs := false) only [ruA, ruB, aEv, aTake, aLoad, aField, aIndex, aLen, aBin, bin2, aUn, un1, aExtract, aConv, ASt.get, aget, ASt.put, aStore, aBox, aAppend, aBuildSlice, aMake, aBuild, aFill, oneParts, allC, aBinS, yv, aCells, oneC, oneCL, treeC, treeL, treeML, treeM_c, treeM_sl, treeM_rp, treeM_any, treeM_fn, treeM_bfn, aLit, aDst, aSrc, appTab, Value.cells, Value.oneCell', envOf, aResL, aOne, ↓reduceIte, reduceCtorEq, forall_const, Nat.reduceLT, Nat.reduceEqDiff, Nat.reduceAdd, Nat.reduceMul, Nat.reduceSub, Nat.reduceLeDiff, Nat.reduceBEq, eq_self, implies_true, ne_eq, dref, dref1, dref2, aExecS, aStoreB, aTakes, aTakeE, aElder, aFrom, aFresh, isLoad, aBuildSlice1, frzs, frz1, ownIds, AV.frz, AV.frzL, frzEnv, AV.shift, AV.shiftL, aFieldV, aSliceW, aSliceO, aSlice, aSliceR, aSliceS, aBd, aMax, frzAVs, frzAV, frzTab, AObj.frz, aMM, aNilS, aMay, aNil, aLenM, aClear, aLookup, aLookG, aMapUpd, aMapPut, keyV, aLookR, false_or, aExecU, tyE_33, tyK_33, tyK_3, tyA_46, tyS_46, tyZ_46, tyF_46_0, tyA_3, tyS_3, tyB_80, tyR_74, tyK_36, tyB_85, tyF_85_2, tyA_55, tyS_55, tyR_55, tyF_85_0, tyA_61, tyS_61, ec] | (with_reducible refine aIf_split (fun _ => ?_) (fun _ => ?_)) | (with_reducible refine aSel_split (fun _ => ?_) (fun _ => ?_)) | (with_reducible refine aGd_split (fun _ => ?_) (fun _ => ?_))))
    exact givesT rfl
end
section
theorem nodup_len : ∀ (n : Nat) (l : List Int), l.Nodup → (∀ x ∈ l, 0 ≤ x ∧ x < (n : Int)) → l.length ≤ n := by
  intro n
  induction n with
  | zero =>
    intro l _ h
    cases l with
    | nil => simp
    | cons x l => have := h x (by simp); omega
  | succ n ih =>
    intro l hn h
    by_cases hm : (n : Int) ∈ l
    · have h1 := ih (l.erase (n : Int)) (hn.erase _) (fun x hx => by
        have := (hn.mem_erase_iff).1 hx
        have := h x this.2
        omega)
      rw [List.length_erase_of_mem hm] at h1
      omega
    · have := ih l hn (fun x hx => by
        have h2 := h x hx
        have : x ≠ (n : Int) := fun e => hm (e ▸ hx)
        omega)
      omega

/-- is it a place? -/
def isAt (l : List Int) (i : Int) : Prop := 0 ≤ i ∧ i < (l.length : Int)
instance (l : List Int) (i : Int) : Decidable (isAt l i) := by unfold isAt; infer_instance
/-- the place itself; -1: it is none -/
def norm (l : List Int) (i : Int) : Int := if isAt l i then i else -1
/-- the place that a place lies in; -1: none -/
def par (l : List Int) (i : Int) : Int := if isAt l i then norm l (l.getD i.toNat 0) else -1
def upN (l : List Int) (i : Int) : Nat → Int
  | 0 => norm l i
  | k + 1 => par l (upN l i k)
/-- the places above, so many at the most -/
def goUp (l : List Int) (i : Int) : Nat → Int → List Int → List Int
  | 0, _, out => out
  | f + 1, p, out => if par l p = -1 ∨ par l p = i ∨ par l p ∈ out then out else goUp l i f (par l p) (out ++ [par l p])
def aboveL (l : List Int) (i : Int) : List Int := goUp l i l.length i []

theorem norm_cases (l : List Int) (i : Int) : (isAt l i ∧ norm l i = i) ∨ (¬ isAt l i ∧ norm l i = -1) := by
  unfold norm; split <;> simp [*]
theorem norm_at (l : List Int) (i : Int) : norm l i = -1 ∨ isAt l (norm l i) := by
  rcases norm_cases l i with ⟨h, e⟩ | ⟨_, e⟩ <;> rw [e]
  · exact .inr h
  · exact .inl rfl
theorem par_at (l : List Int) (i : Int) : par l i = -1 ∨ isAt l (par l i) := by
  unfold par; split
  · exact norm_at _ _
  · exact .inl rfl
theorem par_norm (l : List Int) (i : Int) : par l (norm l i) = par l i := by
  rcases norm_cases l i with ⟨h, e⟩ | ⟨h, e⟩
  · rw [e]
  · rw [e]; unfold par; rw [if_neg h, if_neg (by simp [isAt])]
theorem upN_one (l : List Int) (i : Int) : upN l i 1 = par l i := par_norm l i

/-- the state of the way up: so many places told, all unlike, none the first one -/
structure UpAt (l : List Int) (i : Int) (m : Nat) (p : Int) (out : List Int) : Prop where
  len : out.length = m
  eq : ∀ j, j < m → out[j]? = some (upN l i (j + 1))
  cur : par l p = upN l i (m + 1)
  nodup : out.Nodup
  at_ : ∀ x ∈ out, isAt l x
  not : i ∉ out
  room : m ≤ l.length
  rest : goUp l i (l.length - m) p out = aboveL l i
theorem UpAt.start (l : List Int) (i : Int) : UpAt l i 0 i [] :=
  ⟨rfl, fun j h => by omega, (upN_one l i).symm, List.nodup_nil, fun x h => by simp at h, by simp, by omega, rfl⟩
def stops (l : List Int) (i : Int) (p : Int) (out : List Int) : Prop := par l p = -1 ∨ par l p = i ∨ par l p ∈ out
instance (l : List Int) (i p : Int) (out : List Int) : Decidable (stops l i p out) := by unfold stops; infer_instance
theorem UpAt.next {l : List Int} {i : Int} {m : Nat} {p : Int} {out : List Int} (h : UpAt l i m p out) (hs : ¬ stops l i p out) : UpAt l i (m + 1) (par l p) (out ++ [par l p]) ∧ m + 1 ≤ l.length := by
  unfold stops at hs
  simp only [not_or] at hs
  have hat : isAt l (par l p) := (par_at l p).resolve_left hs.1
  have hnd : (out ++ [par l p]).Nodup := by
    rw [List.nodup_append]
    refine ⟨h.nodup, by simp, fun a ha b hb e => ?_⟩
    simp at hb
    subst hb; subst e
    exact hs.2.2 ha
  have hall : ∀ x ∈ out ++ [par l p], isAt l x := by
    intro x hx
    rcases List.mem_append.1 hx with hx | hx
    · exact h.at_ x hx
    · simp at hx; subst hx; exact hat
  have hlen : m + 1 ≤ l.length := by
    have := nodup_len l.length _ hnd hall
    simp [h.len] at this
    exact this
  refine ⟨⟨by simp [h.len], fun j hj => ?_, by rw [show upN l i (m + 1 + 1) = par l (upN l i (m + 1)) from rfl, h.cur], hnd, hall, ?_, hlen, ?_⟩, hlen⟩
  · by_cases hjm : j < m
    · rw [List.getElem?_append_left (by rw [h.len]; exact hjm)]; exact h.eq j hjm
    · have : j = m := by omega
      subst this
      rw [List.getElem?_append_right (by rw [h.len]; omega), h.len, Nat.sub_self]
      simp [h.cur]
  · intro hi
    rcases List.mem_append.1 hi with hi | hi
    · exact h.not hi
    · simp at hi; exact hs.2.1 hi.symm
  · have := h.rest
    rw [show l.length - m = (l.length - (m + 1)) + 1 from by omega, goUp, if_neg (by simp only [not_or]; exact hs)] at this
    exact this
/-- does the way up come back to where it began? -/
def circ (l : List Int) (i : Int) : Prop := isAt l i ∧ par l (((aboveL l i).getLast?).getD i) = i
instance (l : List Int) (i : Int) : Decidable (circ l i) := by unfold circ; infer_instance
end
section
open Go.ChangeShapes Go.WideShapes Go.ChangeAt Go.RowKit

theorem lawOwn : ownKnob Tryz.prog.godebug = none := by kernel_rfl
theorem lawLaid : laidOutB Tryz.prog = true := by kernel_rfl
theorem lawBool : Tryz.prog.underlying 4 = some .bool := Tryz.underlying4

theorem trodAll_below {H : Type} {enc : TypeId × Value → H} {P : Program} (hl : laidOutB P = true) {W W' : World} (hb : Below W.heap.size W W') (sp : Nat → Bool) :
    ∀ {ts : List TypeId} {vs : List Value} {ds : List (DataW H)} {ps : List MemPlace}, (ts.all fun t => P.readableRec t && decide (t < P.types.size)) = true →
      DataW.TrodAll enc P W 0 (fun _ => true) true ts vs ds ps → (∀ x ∈ ps, x.block < W.heap.size) → (∀ p ∈ ps, sp p.block = true) → DataW.TrodAll enc P W' 0 sp true ts vs ds ps
  | [], [], [], _, _, h, _, _ => h
  | t :: ts, v :: vs, d :: ds, ps, ht, h, hlt, hs => by
    obtain ⟨p, q, h1, h2, rfl⟩ := h
    simp only [List.all_cons, Bool.and_eq_true, decide_eq_true_eq] at ht
    refine ⟨p, q, WideElems.Trod_stays hl ht.1.1 ht.1.2 h1 (fun x hx => hb.same (hlt x (List.mem_append.2 (.inl hx)))) (fun x hx => hs x (List.mem_append.2 (.inl hx))), ?_, rfl⟩
    exact trodAll_below hl hb sp (by simpa using ht.2) h2 (fun x hx => hlt x (List.mem_append.2 (.inr hx))) (fun x hx => hs x (List.mem_append.2 (.inr hx)))
  | [], [], _ :: _, _, _, h, _, _ => h.elim
  | [], _ :: _, _, _, _, h, _, _ => h.elim
  | _ :: _, [], _, _, _, h, _, _ => h.elim
  | _ :: _, _ :: _, [], _, _, h, _, _ => h.elim

theorem law_calls {H : Type} {enc : TypeId × Value → H} {f : Func} {s : ChangeSpec} {fid : FuncId} {W : World} {args : Array Value} {ds gs : List (DataW H)} {before : List MemPlace}
    (hts : (f.params.toList.all fun t => Tryz.prog.readableRec t && decide (t < Tryz.prog.types.size)) = true) (hrt : f.resultTypes = #[4]) (hsv : s.vars = [])
    (hW : DataW.Whole enc Tryz.prog f.params.toList s.vars false W args.toList ds gs before)
    (hfn : ∀ gs', gs' = [] → s.fn H (ds ++ gs') = { results := [.lit (.bool true)], args := ds })
    (hc : Calls Tryz.prog fid args W fun e W' => e = .returned (.bool true) ∧ Below W.heap.size W W') :
    Calls Tryz.prog fid args W fun e W' => ∃ v, e = .returned v ∧ s.post enc Tryz.prog f false true false false W args v W' := by
  refine hc.mono fun e W' ⟨he, hb⟩ => ⟨_, he, ?_⟩
  have hW' := hW
  obtain ⟨p, q, hA, hV, rfl, hfz, hnd⟩ := hW
  rw [hsv] at hV
  obtain ⟨rfl, rfl⟩ := trodVars_none hV
  have hlt : ∀ x ∈ p, x.block < W.heap.size := fun x hx => hW'.lt x (List.mem_append.2 (.inl hx))
  have e1 := hfn [] rfl
  refine ⟨ds, [], p ++ [], [], p, [], hW', ?_, ?_, ?_, hb.frame _, fun h => by cases h⟩
  · rw [e1, hrt]
    exact trodAll_mk1 (shut_bool lawBool true)
  · rw [e1]
    exact trodAll_below lawLaid hb _ hts hA hlt (fun x hx => by simpa using hlt x hx)
  · rw [e1, hsv]
    rfl
end
section
open Go.RowKit

/-- a slice of ints reads as a list -/
def RI (w : World) (v : Value) (l : List Int) : Prop := (sliceR (intR .i64)).one w (fun b => b < w.heap.size) v l
theorem RI.below {w w' : World} {v : Value} {l : List Int} (h : RI w v l) (hb : Below w.heap.size w w') : RI w' v l := slice_mono (slice_below h hb fun b h => h) fun b h => Nat.lt_of_lt_of_le h hb.size
theorem RI.form {w : World} {v : Value} {l : List Int} (h : RI w v l) : ∃ A c, v = .slice A l.length c ∧ l.length ≤ c := by
  obtain ⟨A, c, h1, h2, _⟩ := slice_form h
  exact ⟨A, c, h1, h2⟩
theorem RI.at_ {w : World} {A : Option Addr} {n c : Nat} {l : List Int} (h : RI w (.slice A n c) l) {k : Nat} (hk : k < l.length) :
    ∃ b o, A = some ⟨b, o, none⟩ ∧ w.cell? ⟨b, o + k, none⟩ = some (.int .i64 (l.getD k 0)) ∧ -9223372036854775808 ≤ l.getD k 0 ∧ l.getD k 0 ≤ 9223372036854775807 := by
  obtain ⟨b, o, rfl, hb, _⟩ := slice_some h (by omega)
  have := ints_at h hk
  rw [List.getD, List.getElem?_eq_getElem hk]
  exact ⟨b, o, rfl, this⟩
theorem RI.own {w : World} {base : Nat} {v : Value} {n : Nat} {l : List Int} (h : w.ownsRow base 3 1 v n (l.map (Value.int .i64))) (hx : ∀ x ∈ l, -9223372036854775808 ≤ x ∧ x ≤ 9223372036854775807) : RI w v l :=
  slice_mono (slice_own1 (r := intR .i64) _ h rfl fun a ha => ⟨rfl, wf_i64_mk (hx a ha).1 (hx a ha).2⟩) fun b h => h.2

theorem intInfo : (Tryz.prog.info? 3).map (fun i => (i.zero, i.size, i.bytes)) = some (some (.int .i64 0), 1, 8) := by kernel_rfl
theorem one_new (w : World) (n : Int) (t : TypeId) : ∀ j u, [Value.int .i64 n][j]? = some u → (w.alloc (.cells #[.int .i64 n] t)).cell? ((⟨w.heap.size, 0, none⟩ : Addr).add j) = some u := cells_new w [.int .i64 n] t
theorem one_one (n : Int) : ∀ u ∈ [Value.int .i64 n], u.oneCell' = true := by intro u hu; simp at hu; subst hu; rfl

def lenOf : Value → Nat | .slice _ n _ => n | _ => 0
end
section
open Go.RowKit
theorem rt_ints {w : World} {S : Nat → Prop} {v : Value} {l : List Int} (h : RT w S v (sI l)) (hS : SOk w S) (hl : ∀ x ∈ l, ok64 x) : RI w v l := by
  obtain ⟨A, cap, rfl, hc, hm, _, hA⟩ := h.sl_inv
  refine ⟨A, cap, by simp, by simpa using hc, hm, fun h0 => ?_⟩
  obtain ⟨b, o, rfl, hb, U, hcell, hr, _⟩ := hA (by simpa using h0)
  refine ⟨b, o, rfl, hS b hb, fun i hi => ⟨[.int .i64 l[i]], fun j u hu => ?_, rfl, ?_⟩⟩
  · have h1 : (l.map fun n => [eI n])[i]? = some [eI l[i]] := by simp [hi]
    have h2 := hcell i 0 _ _ h1 rfl
    have h3 := rtc (hr i 0 _ _ h1 rfl)
    cases j with
    | zero =>
      simp at hu
      subst hu
      rw [h3] at h2
      simpa [intR] using h2
    | succ j => simp at hu
  · have := hl _ (List.getElem_mem hi)
    exact wf_i64_mk this.1 this.2
theorem two_args {vs : Array Value} (h : vs.size = 2) : ∃ a b, vs = #[a, b] := ⟨vs[0], vs[1], by apply Array.ext (by simpa using h); intro i h1 h2; simp at h2; match i with | 0 => rfl | 1 => rfl⟩
end
section
def isB (a : List Bool) (i : Int) : Bool := decide (0 ≤ i) && a.getD i.toNat false
theorem isB_nat (a : List Bool) (i : Nat) : isB a (i : Int) = a.getD i false := by simp [isB]
theorem isB_lt {a : List Bool} {i : Int} (h : isB a i = true) : 0 ≤ i ∧ i < (a.length : Int) := by
  simp only [isB, Bool.and_eq_true, decide_eq_true_eq] at h
  refine ⟨h.1, ?_⟩
  rcases Nat.lt_or_ge i.toNat a.length with h1 | h1
  · omega
  · rw [List.getD, List.getElem?_eq_none h1] at h; simp at h
/-- an edge -/
def edge (next : List (List Int)) (i k : Nat) : Prop := (k : Int) ∈ next.getD i [] ∧ k < next.length
def exRow (n : Nat) (a : List Bool) (row : List Int) : Bool := row.any fun k => decide (k < (n : Int)) && isB a k
def exL (next : List (List Int)) (a : List Bool) : List Bool := next.map (exRow next.length a)
theorem exL_length (next : List (List Int)) (a : List Bool) : (exL next a).length = next.length := by simp [exL]
theorem exL_at (next : List (List Int)) (a : List Bool) (i : Nat) : (exL next a).getD i false = true ↔ ∃ k, edge next i k ∧ a.getD k false = true := by
  unfold exL exRow edge
  rw [List.getD, List.getElem?_map]
  rcases Nat.lt_or_ge i next.length with h | h
  · rw [List.getElem?_eq_getElem h]
    simp only [Option.map_some, Option.getD_some, List.any_eq_true, Bool.and_eq_true, decide_eq_true_eq]
    have e : next.getD i [] = next[i] := by rw [List.getD, List.getElem?_eq_getElem h]; rfl
    rw [e]
    refine ⟨fun ⟨k, h1, h2, h3⟩ => ?_, fun ⟨k, ⟨h1, h2⟩, h3⟩ => ⟨(k : Int), h1, by omega, by rw [isB_nat]; exact h3⟩⟩
    obtain ⟨m, rfl⟩ := Int.eq_ofNat_of_zero_le (isB_lt h3).1
    exact ⟨m, ⟨h1, by omega⟩, by rw [← isB_nat]; exact h3⟩
  · rw [List.getElem?_eq_none h]
    have e : next.getD i [] = [] := by rw [List.getD, List.getElem?_eq_none h]; rfl
    rw [e]
    simp

/-- a way leads by a to b -/
inductive EUp (next : List (List Int)) (a b : List Bool) : Nat → Prop
  | here (i : Nat) : i < next.length → b.getD i false = true → EUp next a b i
  | step (i k : Nat) : i < next.length → a.getD i false = true → edge next i k → EUp next a b k → EUp next a b i
/-- a way goes on for ever within a -/
def EGp (next : List (List Int)) (a : List Bool) (i : Nat) : Prop := ∃ S : Nat → Prop, S i ∧ ∀ j, S j → j < next.length ∧ a.getD j false = true ∧ ∃ k, edge next j k ∧ S k
open Classical in
noncomputable def euL (next : List (List Int)) (a b : List Bool) : List Bool := (List.range next.length).map fun i => decide (EUp next a b i)
open Classical in
noncomputable def egL (next : List (List Int)) (a : List Bool) : List Bool := (List.range next.length).map fun i => decide (EGp next a i)
theorem euL_length (next : List (List Int)) (a b : List Bool) : (euL next a b).length = next.length := by simp [euL]
theorem egL_length (next : List (List Int)) (a : List Bool) : (egL next a).length = next.length := by simp [egL]
theorem EUp.lt {next : List (List Int)} {a b : List Bool} {i : Nat} (h : EUp next a b i) : i < next.length := by cases h <;> assumption
theorem EGp.lt {next : List (List Int)} {a : List Bool} {i : Nat} (h : EGp next a i) : i < next.length := by obtain ⟨S, h1, h2⟩ := h; exact (h2 i h1).1
theorem euL_at (next : List (List Int)) (a b : List Bool) (i : Nat) : (euL next a b).getD i false = true ↔ EUp next a b i := by
  unfold euL
  rw [List.getD, List.getElem?_map]
  rcases Nat.lt_or_ge i next.length with h | h
  · rw [List.getElem?_range h]; simp
  · rw [List.getElem?_eq_none (by simpa using h)]
    simp
    exact fun hh => by have := hh.lt; omega
theorem egL_at (next : List (List Int)) (a : List Bool) (i : Nat) : (egL next a).getD i false = true ↔ EGp next a i := by
  unfold egL
  rw [List.getD, List.getElem?_map]
  rcases Nat.lt_or_ge i next.length with h | h
  · rw [List.getElem?_range h]; simp
  · rw [List.getElem?_eq_none (by simpa using h)]
    simp
    exact fun hh => by have := hh.lt; omega
/-- two sets of one length that hold the same are the same -/
theorem set_ext {a b : List Bool} (hl : a.length = b.length) (h : ∀ i, i < a.length → (a.getD i false = true ↔ b.getD i false = true)) : a = b := by
  apply List.ext_getElem hl
  intro i h1 h2
  have := h i h1
  rw [List.getD, List.getElem?_eq_getElem h1, List.getD, List.getElem?_eq_getElem h2] at this
  simp at this
  first | exact this | exact Bool.eq_iff_iff.2 this
def cnt (a : List Bool) : Nat := (a.filter id).length
theorem cnt_le (a : List Bool) : cnt a ≤ a.length := List.length_filter_le _ _
theorem eu_closed (next : List (List Int)) (a b out : List Bool) (h : ∀ i, i < next.length → (b.getD i false = true ∨ (a.getD i false = true ∧ ∃ k, edge next i k ∧ out.getD k false = true)) → out.getD i false = true) : ∀ i, EUp next a b i → out.getD i false = true := by
  intro i hi
  induction hi with
  | here i h0 h1 => exact h i h0 (.inl h1)
  | step i k h0 h1 h2 _ ih => exact h i h0 (.inr ⟨h1, k, h2, ih⟩)
def stepGl (next : List (List Int)) (out : List Bool) : List Bool := (List.range next.length).map fun i => out.getD i false && (exL next out).getD i false
theorem stepG_length (next : List (List Int)) (out : List Bool) : (stepGl next out).length = next.length := by simp [stepGl]
theorem stepG_at (next : List (List Int)) (out : List Bool) (i : Nat) : (stepGl next out).getD i false = true ↔ i < next.length ∧ out.getD i false = true ∧ ∃ k, edge next i k ∧ out.getD k false = true := by
  unfold stepGl
  rw [List.getD, List.getElem?_map]
  rcases Nat.lt_or_ge i next.length with h | h
  · rw [List.getElem?_range h]
    simp only [Option.map_some, Option.getD_some, Bool.and_eq_true, exL_at]
    exact ⟨fun hh => ⟨h, hh⟩, fun hh => hh.2⟩
  · rw [List.getElem?_eq_none (by simpa using h)]
    simp; omega
def itG (next : List (List Int)) (a : List Bool) : Nat → List Bool
  | 0 => (List.range next.length).map fun i => a.getD i false
  | m + 1 => stepGl next (itG next a m)
theorem itG_length (next : List (List Int)) (a : List Bool) : ∀ m, (itG next a m).length = next.length
  | 0 => by simp [itG]
  | m + 1 => stepG_length _ _
theorem itG_zero (next : List (List Int)) (a : List Bool) (i : Nat) : (itG next a 0).getD i false = true ↔ i < next.length ∧ a.getD i false = true := by
  rw [itG, List.getD, List.getElem?_map]
  rcases Nat.lt_or_ge i next.length with h | h
  · rw [List.getElem?_range h]; simp [h]
  · rw [List.getElem?_eq_none (by simpa using h)]; simp; omega
theorem itG_sup (next : List (List Int)) (a : List Bool) : ∀ m i, EGp next a i → (itG next a m).getD i false = true
  | 0, i, h => by
    obtain ⟨S, h1, h2⟩ := h
    obtain ⟨h3, h4, _⟩ := h2 i h1
    exact (itG_zero next a i).2 ⟨h3, h4⟩
  | m + 1, i, h => by
    rw [itG, stepG_at]
    obtain ⟨S, h1, h2⟩ := h
    obtain ⟨h3, h4, k, h5, h6⟩ := h2 i h1
    exact ⟨h3, itG_sup next a m i ⟨S, h1, h2⟩, k, h5, itG_sup next a m k ⟨S, h6, h2⟩⟩
theorem eg_closed (next : List (List Int)) (a out : List Bool) (h : ∀ i, out.getD i false = true → i < next.length ∧ a.getD i false = true ∧ ∃ k, edge next i k ∧ out.getD k false = true) : ∀ i, out.getD i false = true → EGp next a i :=
  fun i hi => ⟨fun j => out.getD j false = true, hi, fun j hj => h j hj⟩
def andL (a b : List Bool) : List Bool := (List.range (max a.length b.length)).map fun i => a.getD i false && b.getD i false
theorem andL_at (a b : List Bool) (i : Nat) : (andL a b).getD i false = (a.getD i false && b.getD i false) := by
  unfold andL
  rw [List.getD, List.getElem?_map]
  rcases Nat.lt_or_ge i (max a.length b.length) with h | h
  · rw [List.getElem?_range h]; rfl
  · rw [List.getElem?_eq_none (by simpa using h), List.getD, List.getElem?_eq_none (by omega)]; rfl
end
section
open Go.RowKit

/-- a slice of bools reads as a list -/
def RB (w : World) (v : Value) (l : List Bool) : Prop := (sliceR boolR).one w (fun b => b < w.heap.size) v l
theorem RB.below {w w' : World} {v : Value} {l : List Bool} (h : RB w v l) (hb : Below w.heap.size w w') : RB w' v l := slice_mono (slice_below h hb fun b h => h) fun b h => Nat.lt_of_lt_of_le h hb.size
theorem RB.form {w : World} {v : Value} {l : List Bool} (h : RB w v l) : ∃ A c, v = .slice A l.length c ∧ l.length ≤ c := by
  obtain ⟨A, c, h1, h2, _⟩ := slice_form h
  exact ⟨A, c, h1, h2⟩
theorem RB.at_ {w : World} {A : Option Addr} {n c : Nat} {l : List Bool} (h : RB w (.slice A n c) l) {k : Nat} (hk : k < l.length) :
    ∃ b o, A = some ⟨b, o, none⟩ ∧ w.cell? ⟨b, o + k, none⟩ = some (.bool (l.getD k false)) := by
  obtain ⟨b, o, rfl, hb, _⟩ := slice_some h (by omega)
  have := bools_at h hk
  rw [List.getD, List.getElem?_eq_getElem hk]
  exact ⟨b, o, rfl, this⟩
theorem RB.own {w : World} {base : Nat} {v : Value} {n : Nat} {l : List Bool} (h : w.ownsRow base 4 1 v n (l.map Value.bool)) : RB w v l :=
  slice_mono (slice_own1 (r := boolR) _ h rfl fun a ha => rfl) fun b h => h.2
/-- a slice of slices of ints reads as a list of lists -/
def RR (w : World) (v : Value) (l : List (List Int)) : Prop := (sliceR (sliceR (intR .i64))).one w (fun b => b < w.heap.size) v l
theorem RR.below {w w' : World} {v : Value} {l : List (List Int)} (h : RR w v l) (hb : Below w.heap.size w w') : RR w' v l := slice_mono (slice_below h hb fun b h => h) fun b h => Nat.lt_of_lt_of_le h hb.size
theorem RR.form {w : World} {v : Value} {l : List (List Int)} (h : RR w v l) : ∃ A c, v = .slice A l.length c ∧ l.length ≤ c := by
  obtain ⟨A, c, h1, h2, _⟩ := slice_form h
  exact ⟨A, c, h1, h2⟩
theorem RR.at_ {w : World} {A : Option Addr} {n c : Nat} {l : List (List Int)} (h : RR w (.slice A n c) l) {k : Nat} (hk : k < l.length) :
    ∃ b o A' c', A = some ⟨b, o, none⟩ ∧ w.cell? ⟨b, o + k, none⟩ = some (.slice A' (l.getD k []).length c') ∧ (l.getD k []).length ≤ c' ∧ c' ≤ 9223372036854775807 ∧ RI w (.slice A' (l.getD k []).length c') (l.getD k []) := by
  obtain ⟨b, o, rfl, hb, _⟩ := slice_some h (by omega)
  have := rows_at h hk
  rw [List.getD, List.getElem?_eq_getElem hk]
  obtain ⟨A', c', h1, h2, h3, h4⟩ := this
  exact ⟨b, o, A', c', rfl, h1, h2, h3, h4⟩
theorem boolInfo : (Tryz.prog.info? 4).map (fun i => (i.zero, i.size, i.bytes)) = some (some (.bool false), 1, 1) := by kernel_rfl
theorem rowInfo : (Tryz.prog.info? 55).map (fun i => (i.zero, i.size, i.bytes)) = some (some (.slice none 0 0), 1, 24) := by kernel_rfl

set_option maxHeartbeats 400000 in
theorem labelIs_any (a : List Bool) (v : Value) (i : Int) (w : World) (hl : a.length ≤ 9223372036854775807) (hv : RB w v a) :
    Calls Tryz.prog 36 #[v, .int .i64 i] w fun e w' => e = .returned (.bool (isB a i)) ∧ w = w' := by
  obtain ⟨A, c, rfl, hc⟩ := hv.form
  by_cases h0 : 0 ≤ i
  · obtain ⟨k, rfl⟩ := Int.eq_ofNat_of_zero_le h0
    by_cases hlt : k < a.length
    · obtain ⟨b, o, rfl, hcell⟩ := hv.at_ hlt
      rw [isB_nat]
      generalize a.getD k false = x at *
      go_enter Tryz.func36, Tryz.ntmps36
      go_wp2_with fail
      go_ret
      exact ⟨by simp_all, rfl⟩
    · have e : isB a (k : Int) = false := by
        cases h : isB a (k : Int) with
        | false => rfl
        | true => have := isB_lt h; omega
      rw [e]
      clear e
      go_enter Tryz.func36, Tryz.ntmps36
      go_wp2_with fail
      go_ret
      exact ⟨by simp_all, rfl⟩
  · have e : isB a i = false := by
      cases h : isB a i with
      | false => rfl
      | true => have := isB_lt h; omega
    rw [e]
    clear e
    go_enter Tryz.func36, Tryz.ntmps36
    go_wp2_with fail
    go_ret
    exact ⟨by simp_all, rfl⟩

set_option maxHeartbeats 400000 in
theorem labelPlace_any (next : List (List Int)) (v : Value) (i : Int) (w : World) (hl : next.length ≤ 9223372036854775807) (hv : RR w v next) :
    Calls Tryz.prog 37 #[v, .int .i64 i] w fun e w' => e = .returned (.bool (decide (0 ≤ i ∧ i < (next.length : Int)))) ∧ w = w' := by
  obtain ⟨A, c, rfl, hc⟩ := hv.form
  by_cases h0 : 0 ≤ i
  · by_cases h1 : i < (next.length : Int)
    · rw [decide_eq_true (show 0 ≤ i ∧ i < (next.length : Int) from ⟨h0, h1⟩)]
      go_enter Tryz.func37, Tryz.ntmps37
      go_wp2_with fail
      go_ret
      exact ⟨by simp_all, rfl⟩
    · rw [decide_eq_false (show ¬ (0 ≤ i ∧ i < (next.length : Int)) from fun h => h1 h.2)]
      go_enter Tryz.func37, Tryz.ntmps37
      go_wp2_with fail
      go_ret
      exact ⟨by simp_all, rfl⟩
  · rw [decide_eq_false (show ¬ (0 ≤ i ∧ i < (next.length : Int)) from fun h => h0 h.1)]
    go_enter Tryz.func37, Tryz.ntmps37
    go_wp2_with fail
    go_ret
    exact ⟨by simp_all, rfl⟩
end
section
open Go.RowKit

/-- an own row of bools -/
def OB (w : World) (base : Nat) (v : Value) (l : List Bool) : Prop := w.ownsRow base 4 1 v l.length (l.map Value.bool)
theorem OB.made (w : World) (n : Nat) (hn : n ≤ 9223372036854775807) : OB (w.alloc (.cells (madeCells #[.bool false] n) 4)) w.heap.size (.slice (some ⟨w.heap.size, 0, none⟩) n n) (List.replicate n false) := by
  have := World.ownsRow_lit (e := 4) (size := 1) (base := w.heap.size) w (madeCells #[.bool false] n) n (Nat.le_refl _) (by simpa [maxLen] using hn) (by rw [size_madeCells, Nat.mul_one])
  rw [toList_madeCells_one] at this
  unfold OB
  rw [List.length_replicate, List.map_replicate]
  exact this
theorem OB.cell {w : World} {base g n c : Nat} {l : List Bool} (h : OB w base (.slice (some ⟨g, 0, none⟩) n c) l) {k : Nat} (hk : k < l.length) : w.cell? ⟨g, k, none⟩ = some (.bool (l.getD k false)) := by
  have hn : n = l.length := by
    obtain ⟨A, c', e, _⟩ := own_form h
    cases e; rfl
  subst hn
  refine own_cell h rfl ?_
  rw [List.getElem?_map, List.getD, List.getElem?_eq_getElem hk]; rfl
theorem OB.frozen {w : World} {base g n c : Nat} {l : List Bool} (h : OB w base (.slice (some ⟨g, 0, none⟩) n c) l) (k : Nat) : w.frozen? ⟨g, k, none⟩ = false := by
  have hn : n = l.length := by
    obtain ⟨A, c', e, _⟩ := own_form h
    cases e; rfl
  subst hn
  exact World.ownsRow.frozenAt h k
theorem OB.set {w : World} {base g n c : Nat} {l : List Bool} (h : OB w base (.slice (some ⟨g, 0, none⟩) n c) l) (k : Nat) (x : Bool) : OB (w.setCell ⟨g, k, none⟩ (.bool x)) base (.slice (some ⟨g, 0, none⟩) n c) (l.set k x) := by
  have hn : n = l.length := by
    obtain ⟨A, c', e, _⟩ := own_form h
    cases e; rfl
  subst hn
  have := (World.ownsRow.stored h k (.bool x)).1
  unfold OB
  rw [List.length_set, List.map_set]
  exact this
theorem set_getD (l : List Bool) (k : Nat) (x : Bool) (h : k < l.length) (j : Nat) : (l.set k x).getD j false = if j = k then x else l.getD j false := by
  simp only [List.getD, List.getElem?_set]
  by_cases e : j = k
  · subst e; simp [h]
  · rw [if_neg (fun h => e h.symm), if_neg e]
theorem rep_getD (n j : Nat) : (List.replicate n false).getD j false = false := by
  rw [List.getD, List.getElem?_replicate]; split <;> rfl
theorem list_eq {a b : List Bool} (hl : a.length = b.length) (h : ∀ j, j < a.length → a.getD j false = b.getD j false) : a = b := by
  apply List.ext_getElem hl
  intro i h1 h2
  have := h i h1
  rwa [List.getD, List.getElem?_eq_getElem h1, List.getD, List.getElem?_eq_getElem h2] at this

/-- what a function that makes a set hands back -/
def SetPost (L : List Bool) (w : World) (e : Ending) (w' : World) : Prop := ∃ g, e = .returned (.slice (some ⟨g, 0, none⟩) L.length L.length) ∧ OB w' w.heap.size (.slice (some ⟨g, 0, none⟩) L.length L.length) L ∧ Below w.heap.size w w'

set_option maxHeartbeats 400000 in
theorem not_any (a : List Bool) (v : Value) (w : World) (hl : a.length ≤ 281474976710656) (hv : RB w v a) : Calls Tryz.prog 19 #[v] w (SetPost (a.map (!·)) w) := by
  obtain ⟨A, c, rfl, hc⟩ := hv.form
  have hmk := run_make_row' (P := Tryz.prog) 47 4 (.bool false) 1 Tryz.underlying47 boolInfo rfl .i64 .i64 a.length (by omega) (by omega)
  go_enter Tryz.func19, Tryz.ntmps19
  go_wp2_with fail
  have ho := OB.made w a.length (by omega)
  have hb0 := (Below.refl w.heap.size w).alloc (Nat.le_refl _) (.cells (madeCells #[.bool false] a.length) 4)
  clear hmk
  go_loopw [11] (fun i wr => ∃ (k : Nat) (L : List Bool), k ≤ a.length ∧ i = .int .i64 (k : Int) ∧ L.length = a.length ∧ (∀ j, j < k → L.getD j false = !(a.getD j false)) ∧ OB wr w.heap.size (.slice (some ⟨w.heap.size, 0, none⟩) a.length a.length) L ∧ Below w.heap.size w wr) (fun i wr => a.length - (intOf i).toNat)
  case atStart => exact ⟨0, _, Nat.zero_le _, rfl, List.length_replicate, fun j hj => by omega, ho, hb0⟩
  case round =>
    clear ho hb0
    obtain ⟨k, L, hk, rfl, hL, hpre, ho, hb⟩ := hrel
    have HL := hide hL
    have Hpre := hide hpre
    clear hL hpre
    by_cases hlt : k < a.length
    · obtain ⟨b, o, rfl, hcell⟩ := (hv.below hb).at_ hlt
      have c1 := ho.cell (k := k) (by have := HL.out; omega)
      have f1 := ho.frozen k
      generalize hx : a.getD k false = x at *
      have Hx := hide hx
      clear hx
      go_wp2_with fail
      go_roundw
      case rel =>
        refine ⟨k + 1, L.set k (!x), by omega, by go_num, by rw [List.length_set, HL.out], fun j hj => ?_, ho.set k _, hb.setCell (Nat.le_refl _) _⟩
        rw [set_getD _ _ _ (by rw [HL.out]; exact hlt)]
        split
        · rename_i e; subst e; rw [Hx.out]
        · exact Hpre.out j (by omega)
      case measure => simp [intOf]; omega
    · obtain rfl : k = a.length := by omega
      go_wp2_with fail
      go_ret
      have e : L = a.map (!·) := list_eq (by rw [HL.out, List.length_map]) fun j hj => by
        rw [Hpre.out j (by rw [← HL.out]; exact hj), List.getD, List.getD, List.getElem?_map]
        rw [HL.out] at hj
        rw [List.getElem?_eq_getElem hj]; rfl
      refine ⟨w.heap.size, by rw [← e, HL.out]; rfl, ?_, hb⟩
      rw [← e, HL.out]; exact ho

set_option maxHeartbeats 400000 in
theorem and_any (a b : List Bool) (va vb : Value) (w : World) (hla : a.length ≤ 281474976710656) (hlb : b.length ≤ 281474976710656) (ha : RB w va a) (hb : RB w vb b) : Calls Tryz.prog 20 #[va, vb] w (SetPost (andL a b) w) := by
  obtain ⟨A, ca, rfl, hca⟩ := ha.form
  obtain ⟨B, cb, rfl, hcb⟩ := hb.form
  by_cases hab : a.length < b.length
  · have hmk := run_make_row' (P := Tryz.prog) 47 4 (.bool false) 1 Tryz.underlying47 boolInfo rfl .i64 .i64 b.length (by omega) (by omega)
    go_enter Tryz.func20, Tryz.ntmps20
    go_wp2_with fail
    have ho := OB.made w b.length (by omega)
    have hb0 := (Below.refl w.heap.size w).alloc (Nat.le_refl _) (.cells (madeCells #[.bool false] b.length) 4)
    clear hmk
    go_loopw [15] (fun i wr => ∃ (k : Nat) (L : List Bool), k ≤ b.length ∧ i = .int .i64 (k : Int) ∧ L.length = b.length ∧ (∀ j, j < k → L.getD j false = (a.getD j false && b.getD j false)) ∧ OB wr w.heap.size (.slice (some ⟨w.heap.size, 0, none⟩) b.length b.length) L ∧ Below w.heap.size w wr) (fun i wr => b.length - (intOf i).toNat)
    case atStart => exact ⟨0, _, Nat.zero_le _, rfl, List.length_replicate, fun j hj => by omega, ho, hb0⟩
    case round =>
      clear ho hb0
      obtain ⟨k, L, hk, rfl, hL, hpre, ho, hbl⟩ := hrel
      have HL := hide hL
      have Hpre := hide hpre
      clear hL hpre
      by_cases hlt : k < b.length
      · have h1 := labelIs_any a _ (k : Int) wr (by omega) (ha.below hbl)
        have h2 := labelIs_any b _ (k : Int) wr (by omega) (hb.below hbl)
        rw [isB_nat] at h1 h2
        have c1 := ho.cell (k := k) (by have := HL.out; omega)
        have f1 := ho.frozen k
        have hpk : (a.getD k false && b.getD k false) = (a.getD k false && b.getD k false) := rfl
        have H1 := hide h1
        have H2 := hide h2
        clear h1 h2 hpk
        obtain ⟨x, hx⟩ : ∃ x, x = a.getD k false := ⟨_, rfl⟩
        obtain ⟨y, hy⟩ : ∃ y, y = b.getD k false := ⟨_, rfl⟩
        rw [← hx] at H1
        rw [← hy] at H2
        have Hx := hide hx
        have Hy := hide hy
        clear hx hy
        have hrel : ∀ z, z = (x && y) → ∃ (k_1 : Nat) (L_1 : List Bool), k_1 ≤ b.length ∧ Value.int .i64 ((k : Int) + 1) = .int .i64 (k_1 : Int) ∧ L_1.length = b.length ∧ (∀ j, j < k_1 → L_1.getD j false = (a.getD j false && b.getD j false)) ∧ OB (wr.setCell ⟨w.heap.size, k, none⟩ (.bool z)) w.heap.size (.slice (some ⟨w.heap.size, 0, none⟩) b.length b.length) L_1 ∧ Below w.heap.size w (wr.setCell ⟨w.heap.size, k, none⟩ (.bool z)) := by
          rintro z rfl
          refine ⟨k + 1, L.set k (x && y), by omega, by go_num, by rw [List.length_set, HL.out], fun j hj => ?_, ho.set k _, hbl.setCell (Nat.le_refl _) _⟩
          rw [set_getD _ _ _ (by rw [HL.out]; exact hlt)]
          split
          · rename_i e; subst e; rw [Hx.out, Hy.out]
          · exact Hpre.out j (by omega)
        have Hrel := hide hrel
        clear hrel
        cases x with
        | true =>
          go_wp2_with (first
            | (go_at_call_of 36 (Value.slice A a.length ca); refine H1.out.mono ?_; rintro e w2 ⟨rfl, rfl⟩)
            | (go_at_call_of 36 (Value.slice B b.length cb); refine H2.out.mono ?_; rintro e w2 ⟨rfl, rfl⟩))
          go_roundw
          case rel => exact Hrel.out _ (by simp)
          case measure => simp [intOf]; omega
        | false =>
          go_wp2_with (go_at_call_of 36 (Value.slice A a.length ca); refine H1.out.mono ?_; rintro e w2 ⟨rfl, rfl⟩)
          go_roundw
          case rel => exact Hrel.out _ rfl
          case measure => simp [intOf]; omega
      · obtain rfl : k = b.length := by omega
        go_wp2_with fail
        go_ret
        have e : L = andL a b := list_eq (by rw [HL.out]; unfold andL; simp; omega) fun j hj => by
          rw [Hpre.out j (by rw [← HL.out]; exact hj), andL_at]
        refine ⟨w.heap.size, by rw [← e, HL.out]; rfl, ?_, hbl⟩
        rw [← e, HL.out]; exact ho
  · have hmk := run_make_row' (P := Tryz.prog) 47 4 (.bool false) 1 Tryz.underlying47 boolInfo rfl .i64 .i64 a.length (by omega) (by omega)
    go_enter Tryz.func20, Tryz.ntmps20
    go_wp2_with fail
    have ho := OB.made w a.length (by omega)
    have hb0 := (Below.refl w.heap.size w).alloc (Nat.le_refl _) (.cells (madeCells #[.bool false] a.length) 4)
    clear hmk
    go_loopw [15] (fun i wr => ∃ (k : Nat) (L : List Bool), k ≤ a.length ∧ i = .int .i64 (k : Int) ∧ L.length = a.length ∧ (∀ j, j < k → L.getD j false = (a.getD j false && b.getD j false)) ∧ OB wr w.heap.size (.slice (some ⟨w.heap.size, 0, none⟩) a.length a.length) L ∧ Below w.heap.size w wr) (fun i wr => a.length - (intOf i).toNat)
    case atStart => exact ⟨0, _, Nat.zero_le _, rfl, List.length_replicate, fun j hj => by omega, ho, hb0⟩
    case round =>
      clear ho hb0
      obtain ⟨k, L, hk, rfl, hL, hpre, ho, hbl⟩ := hrel
      have HL := hide hL
      have Hpre := hide hpre
      clear hL hpre
      by_cases hlt : k < a.length
      · have h1 := labelIs_any a _ (k : Int) wr (by omega) (ha.below hbl)
        have h2 := labelIs_any b _ (k : Int) wr (by omega) (hb.below hbl)
        rw [isB_nat] at h1 h2
        have c1 := ho.cell (k := k) (by have := HL.out; omega)
        have f1 := ho.frozen k
        have hpk : (a.getD k false && b.getD k false) = (a.getD k false && b.getD k false) := rfl
        have H1 := hide h1
        have H2 := hide h2
        clear h1 h2 hpk
        obtain ⟨x, hx⟩ : ∃ x, x = a.getD k false := ⟨_, rfl⟩
        obtain ⟨y, hy⟩ : ∃ y, y = b.getD k false := ⟨_, rfl⟩
        rw [← hx] at H1
        rw [← hy] at H2
        have Hx := hide hx
        have Hy := hide hy
        clear hx hy
        have hrel : ∀ z, z = (x && y) → ∃ (k_1 : Nat) (L_1 : List Bool), k_1 ≤ a.length ∧ Value.int .i64 ((k : Int) + 1) = .int .i64 (k_1 : Int) ∧ L_1.length = a.length ∧ (∀ j, j < k_1 → L_1.getD j false = (a.getD j false && b.getD j false)) ∧ OB (wr.setCell ⟨w.heap.size, k, none⟩ (.bool z)) w.heap.size (.slice (some ⟨w.heap.size, 0, none⟩) a.length a.length) L_1 ∧ Below w.heap.size w (wr.setCell ⟨w.heap.size, k, none⟩ (.bool z)) := by
          rintro z rfl
          refine ⟨k + 1, L.set k (x && y), by omega, by go_num, by rw [List.length_set, HL.out], fun j hj => ?_, ho.set k _, hbl.setCell (Nat.le_refl _) _⟩
          rw [set_getD _ _ _ (by rw [HL.out]; exact hlt)]
          split
          · rename_i e; subst e; rw [Hx.out, Hy.out]
          · exact Hpre.out j (by omega)
        have Hrel := hide hrel
        clear hrel
        cases x with
        | true =>
          go_wp2_with (first
            | (go_at_call_of 36 (Value.slice A a.length ca); refine H1.out.mono ?_; rintro e w2 ⟨rfl, rfl⟩)
            | (go_at_call_of 36 (Value.slice B b.length cb); refine H2.out.mono ?_; rintro e w2 ⟨rfl, rfl⟩))
          go_roundw
          case rel => exact Hrel.out _ (by simp)
          case measure => simp [intOf]; omega
        | false =>
          go_wp2_with (go_at_call_of 36 (Value.slice A a.length ca); refine H1.out.mono ?_; rintro e w2 ⟨rfl, rfl⟩)
          go_roundw
          case rel => exact Hrel.out _ rfl
          case measure => simp [intOf]; omega
      · obtain rfl : k = a.length := by omega
        go_wp2_with fail
        go_ret
        have e : L = andL a b := list_eq (by rw [HL.out]; unfold andL; simp; omega) fun j hj => by
          rw [Hpre.out j (by rw [← HL.out]; exact hj), andL_at]
        refine ⟨w.heap.size, by rw [← e, HL.out]; rfl, ?_, hbl⟩
        rw [← e, HL.out]; exact ho
end
section
open Go.RowKit

theorem exL_row (next : List (List Int)) (a : List Bool) (k : Nat) (h : k < next.length) : (exL next a).getD k false = exRow next.length a (next.getD k []) := by
  unfold exL
  rw [List.getD, List.getElem?_map, List.getElem?_eq_getElem h, List.getD, List.getElem?_eq_getElem h]; rfl
theorem exRow_snoc (n : Nat) (a : List Bool) (row : List Int) (m : Nat) (h : m < row.length) : exRow n a (row.take (m + 1)) = (exRow n a (row.take m) || (decide (row.getD m 0 < (n : Int)) && isB a (row.getD m 0))) := by
  rw [List.take_succ_eq_append_getElem h, exRow, List.any_append, List.getD, List.getElem?_eq_getElem h]
  simp [exRow]

/-- how far EX has come: the rows before k whole, of row k so many -/
structure ExAt (next : List (List Int)) (a : List Bool) (k m : Nat) (L : List Bool) : Prop where
  len : L.length = next.length
  pre : ∀ j, j < k → L.getD j false = (exL next a).getD j false
  cur : L.getD k false = exRow next.length a ((next.getD k []).take m)
  post : ∀ j, k < j → L.getD j false = false
theorem ExAt.start (next : List (List Int)) (a : List Bool) : ExAt next a 0 0 (List.replicate next.length false) :=
  ⟨by simp, fun j h => by omega, by rw [rep_getD]; simp [exRow], fun j _ => rep_getD _ _⟩
theorem ExAt.next {next : List (List Int)} {a : List Bool} {k m : Nat} {L : List Bool} (h : ExAt next a k m L) (hk : k < next.length) (hm : m < (next.getD k []).length) (x : Bool)
    (hx : x = (L.getD k false || (decide ((next.getD k []).getD m 0 < (next.length : Int)) && isB a ((next.getD k []).getD m 0)))) : ExAt next a k (m + 1) (L.set k x) := by
  refine ⟨by rw [List.length_set, h.len], fun j hj => ?_, ?_, fun j hj => ?_⟩
  · rw [set_getD _ _ _ (by rw [h.len]; exact hk), if_neg (by omega)]; exact h.pre j hj
  · rw [set_getD _ _ _ (by rw [h.len]; exact hk), if_pos rfl, hx, exRow_snoc _ _ _ _ hm, h.cur]
  · rw [set_getD _ _ _ (by rw [h.len]; exact hk), if_neg (by omega)]; exact h.post j hj
theorem ExAt.same {next : List (List Int)} {a : List Bool} {k m : Nat} {L : List Bool} (h : ExAt next a k m L) (hm : m < (next.getD k []).length)
    (hx : (decide ((next.getD k []).getD m 0 < (next.length : Int)) && isB a ((next.getD k []).getD m 0)) = false) : ExAt next a k (m + 1) L :=
  ⟨h.len, h.pre, by rw [exRow_snoc _ _ _ _ hm, hx, Bool.or_false]; exact h.cur, h.post⟩
theorem ExAt.row {next : List (List Int)} {a : List Bool} {k : Nat} {L : List Bool} (h : ExAt next a k (next.getD k []).length L) (hk : k < next.length) : ExAt next a (k + 1) 0 L := by
  refine ⟨h.len, fun j hj => ?_, ?_, fun j hj => h.post j (by omega)⟩
  · by_cases e : j = k
    · subst e
      rw [h.cur, List.take_length, exL_row _ _ _ hk]
    · exact h.pre j (by omega)
  · rw [h.post (k + 1) (by omega)]; simp [exRow]
theorem ExAt.done {next : List (List Int)} {a : List Bool} {m : Nat} {L : List Bool} (h : ExAt next a next.length m L) : L = exL next a :=
  list_eq (by rw [h.len, exL_length]) fun j hj => h.pre j (by rw [h.len] at hj; exact hj)

set_option maxHeartbeats 1000000 in
theorem ex_any (next : List (List Int)) (a : List Bool) (vn va : Value) (w : World) (hl : next.length ≤ 4294967296) (hr : ∀ r ∈ next, r.length ≤ 4294967296) (hla : a.length ≤ 9223372036854775807) (hn : RR w vn next) (ha : RB w va a) :
    Calls Tryz.prog 21 #[vn, va] w (SetPost (exL next a) w) := by
  obtain ⟨A, c, rfl, hc⟩ := hn.form
  obtain ⟨B, cb, rfl, hcb⟩ := ha.form
  have hmk := run_make_row' (P := Tryz.prog) 47 4 (.bool false) 1 Tryz.underlying47 boolInfo rfl .i64 .i64 next.length (by omega) (by omega)
  have Hr := hide hr
  clear hr
  go_enter Tryz.func21, Tryz.ntmps21
  go_wp2_with fail
  have ho := OB.made w next.length (by omega)
  have hb0 := (Below.refl w.heap.size w).alloc (Nat.le_refl _) (.cells (madeCells #[.bool false] next.length) 4)
  clear hmk
  go_loopw [15] (fun i wr => ∃ (k : Nat) (L : List Bool), k ≤ next.length ∧ i = .int .i64 (k : Int) ∧ ExAt next a k 0 L ∧ OB wr w.heap.size (.slice (some ⟨w.heap.size, 0, none⟩) next.length next.length) L ∧ Below w.heap.size w wr) (fun i wr => next.length - (intOf i).toNat)
  case atStart => exact ⟨0, _, Nat.zero_le _, rfl, ExAt.start next a, ho, hb0⟩
  case round =>
    clear ho hb0
    obtain ⟨k, L, hk, rfl, hL, ho, hb⟩ := hrel
    by_cases hlt : k < next.length
    · obtain ⟨b, o, A', c', rfl, hcell0, hc1, hc2, hri⟩ := hn.at_ hlt
      have hcell := (hb.cell (World.block_lt_of_cell? w _ hcell0)).trans hcell0
      have hrow : (next.getD k []).length ≤ 4294967296 := by
        rw [List.getD, List.getElem?_eq_getElem hlt]; exact Hr.out _ (List.getElem_mem hlt)
      obtain ⟨row, hrw⟩ : ∃ row, row = next.getD k [] := ⟨_, rfl⟩
      rw [← hrw] at hcell hc1 hri hrow
      have Hrw := hide hrw
      have HL0 := hide hL
      have Hb := hide hb
      have Ho := hide ho
      clear hrw hcell0 hL hb ho
      go_wp2_with fail
      go_loopw [22] (fun i wx => ∃ (m : Nat) (L : List Bool), m ≤ row.length ∧ i = .int .i64 (m : Int) ∧ ExAt next a k m L ∧ OB wx w.heap.size (.slice (some ⟨w.heap.size, 0, none⟩) next.length next.length) L ∧ Below w.heap.size w wx) (fun i wx => row.length - (intOf i).toNat)
      case atStart => exact ⟨0, L, Nat.zero_le _, rfl, HL0.out, Ho.out, Hb.out⟩
      case round =>
        clear hcell HL0 Hb Ho
        obtain ⟨m, L, hm, rfl, hL, ho, hb⟩ := hrel
        by_cases hmlt : m < row.length
        · obtain ⟨b2, o2, rfl, hcell2, hy1, hy2⟩ := (hri.below hb).at_ hmlt
          have hlen := hL.len
          have c1 := ho.cell (k := k) (by omega)
          have f1 := ho.frozen k
          have hpl := labelPlace_any next _ (row.getD m 0) wr (by omega) (hn.below hb)
          have his := labelIs_any a _ (row.getD m 0) wr (by omega) (ha.below hb)
          have hnx := fun (x : Bool) => hL.next hlt (by rw [← Hrw.out]; exact hmlt) x
          rw [← Hrw.out] at hnx
          generalize row.getD m 0 = y at *
          generalize L.getD k false = z at *
          have hset := fun x => ho.set k x
          have Hpl := hide hpl
          have His := hide his
          have Hnx := hide hnx
          have Hlen := hide hlen
          have HL := hide hL
          have Hset := hide hset
          have hB := hide hb
          clear hpl his hnx hlen hL hset
          have hrelx : ∀ x, x = (z || (decide (y < (next.length : Int)) && isB a y)) → ∃ (m_1 : Nat) (L_1 : List Bool), m_1 ≤ row.length ∧ Value.int .i64 ((m : Int) + 1) = .int .i64 (m_1 : Int) ∧ ExAt next a k m_1 L_1 ∧ OB (wr.setCell ⟨w.heap.size, k, none⟩ (.bool x)) w.heap.size (.slice (some ⟨w.heap.size, 0, none⟩) next.length next.length) L_1 ∧ Below w.heap.size w (wr.setCell ⟨w.heap.size, k, none⟩ (.bool x)) := fun x hx =>
            ⟨m + 1, L.set k x, by omega, by go_num, Hnx.out x hx, Hset.out x, hB.out.setCell (Nat.le_refl _) _⟩
          have Hrelx := hide hrelx
          clear hrelx hB
          cases z with
          | true =>
            go_wp2_with fail
            go_roundw
            case rel => exact Hrelx.out _ (by simp)
            case measure => simp [intOf]; omega
          | false =>
            by_cases hp : 0 ≤ y ∧ y < (next.length : Int)
            · cases hy : isB a y with
              | true =>
                have hd : decide (y < (next.length : Int)) = true := decide_eq_true hp.2
                rw [hy] at His
                have hpp : decide (0 ≤ y ∧ y < (next.length : Int)) = true := decide_eq_true hp
                rw [hpp] at Hpl
                rw [hd, hy] at Hrelx
                have HP := hide hp
                clear hd hpp hy hp
                go_wp2_with (first
                  | (go_at_call 37; refine Hpl.out.mono ?_; rintro e w2 ⟨rfl, rfl⟩)
                  | (go_at_call 36; refine His.out.mono ?_; rintro e w2 ⟨rfl, rfl⟩))
                go_roundw
                case rel => exact Hrelx.out _ (by simp)
                case measure => simp [intOf]; omega
              | false =>
                rw [hy] at His
                have hpp : decide (0 ≤ y ∧ y < (next.length : Int)) = true := decide_eq_true hp
                rw [hpp] at Hpl
                rw [hy] at Hrelx
                have HP := hide hp
                clear hpp hy hp
                go_wp2_with (first
                  | (go_at_call 37; refine Hpl.out.mono ?_; rintro e w2 ⟨rfl, rfl⟩)
                  | (go_at_call 36; refine His.out.mono ?_; rintro e w2 ⟨rfl, rfl⟩))
                go_roundw
                case rel => exact Hrelx.out _ (by simp)
                case measure => simp [intOf]; omega
            · have hx : (decide (y < (next.length : Int)) && isB a y) = false := by
                rw [Bool.and_eq_false_iff]
                by_cases h0 : 0 ≤ y
                · exact .inl (decide_eq_false (fun h => hp ⟨h0, h⟩))
                · exact .inr (by simp [isB, h0])
              have hpp : decide (0 ≤ y ∧ y < (next.length : Int)) = false := decide_eq_false hp
              rw [hpp] at Hpl
              rw [hx] at Hrelx
              have HP := hide hp
              clear hpp hx hp
              go_wp2_with (go_at_call 37; refine Hpl.out.mono ?_; rintro e w2 ⟨rfl, rfl⟩)
              go_roundw
              case rel => exact Hrelx.out _ (by simp)
              case measure => simp [intOf]; omega
        · obtain rfl : m = row.length := by omega
          rw [Hrw.out] at hL
          have hL2 := hL.row hlt
          have HL2 := hide hL2
          clear hL hL2
          go_wp2_with fail
          go_roundw
          case rel => exact ⟨k + 1, L, by omega, by go_num, HL2.out, ho, hb⟩
          case measure => simp [intOf]; omega
    · obtain rfl : k = next.length := by omega
      have e := hL.done
      have hlen := hL.len
      have E := hide e
      have HL := hide hlen
      clear e hlen hL
      go_wp2_with fail
      go_ret
      refine ⟨w.heap.size, by rw [← E.out, HL.out]; rfl, ?_, hb⟩
      rw [← E.out, HL.out]; exact ho
end
section
open Go.RowKit

/-- one set on the way to another one: the places before k are new; same tells whether they are as before -/
structure UAt (old new : List Bool) (k : Nat) (L : List Bool) (s : Bool) : Prop where
  len : L.length = old.length
  lenN : new.length = old.length
  pre : ∀ j, j < k → L.getD j false = new.getD j false
  post : ∀ j, k ≤ j → L.getD j false = old.getD j false
  same : s = true ↔ ∀ j, j < k → new.getD j false = old.getD j false
theorem UAt.start (old new : List Bool) (h : new.length = old.length) : UAt old new 0 old true := ⟨rfl, h, fun j hj => by omega, fun j _ => rfl, by simp⟩
theorem UAt.next {old new : List Bool} {k : Nat} {L : List Bool} {s : Bool} (h : UAt old new k L s) (hk : k < old.length) : UAt old new (k + 1) (L.set k (new.getD k false)) (s && (new.getD k false == old.getD k false)) := by
  refine ⟨by rw [List.length_set, h.len], h.lenN, fun j hj => ?_, fun j hj => ?_, ?_⟩
  · rw [set_getD _ _ _ (by rw [h.len]; exact hk)]
    split
    · rename_i e; rw [e]
    · exact h.pre j (by omega)
  · rw [set_getD _ _ _ (by rw [h.len]; exact hk), if_neg (by omega)]; exact h.post j (by omega)
  · rw [Bool.and_eq_true, h.same, beq_iff_eq]
    constructor
    · rintro ⟨h1, h2⟩ j hj
      by_cases e : j = k
      · rw [e]; exact h2
      · exact h1 j (by omega)
    · intro h1
      exact ⟨fun j hj => h1 j (by omega), h1 k (by omega)⟩
theorem UAt.done {old new : List Bool} {L : List Bool} {s : Bool} (h : UAt old new old.length L s) : L = new ∧ (s = true → new = old) ∧ (s = false → new ≠ old) := by
  refine ⟨list_eq (by rw [h.len, h.lenN]) fun j hj => h.pre j (by rw [h.len] at hj; exact hj), fun e => list_eq h.lenN fun j hj => h.same.1 e j (by rw [h.lenN] at hj; exact hj), fun e e2 => ?_⟩
  have := h.same.2 (fun j _ => by rw [e2])
  rw [e] at this; simp at this

theorem OB.below {w w' : World} {base : Nat} {v : Value} {l : List Bool} (h : OB w base v l) (hb : Below w.heap.size w w') : OB w' base v l := own_below' h hb
theorem OB.far {w : World} {base : Nat} {v : Value} {l : List Bool} (h : OB w base v l) {p : Addr} (hp : p.block < base) (u : Value) : OB (w.setCell p u) base v l := own_far h hp u
end
section
open Go.RowKit

/-- the stack at block g holds F -/
def StackAt (w : World) (g : Nat) (F : List Int) : Prop := ∃ v, Blk w g 116 #[v] ∧ w.ownsRow (g + 1) 3 1 v F.length (F.map (Value.int .i64))
theorem StackAt.lt {w : World} {g : Nat} {F : List Int} (h : StackAt w g F) : g < w.heap.size := by
  obtain ⟨v, h1, _⟩ := h; exact h1.lt
theorem StackAt.new (w : World) : StackAt (w.alloc (.cells #[.slice none 0 0] 116)) w.heap.size [] :=
  ⟨_, Blk.new _ _ _, World.ownsRow_nil _ _ _ _⟩
theorem StackAt.far {w : World} {g : Nat} {F : List Int} (h : StackAt w g F) {p : Addr} (hp : p.block < g) (u : Value) : StackAt (w.setCell p u) g F := by
  obtain ⟨v, h1, h2⟩ := h
  exact ⟨v, h1.far (by omega) u, own_far h2 (by omega) u⟩

set_option maxHeartbeats 400000 in
theorem pushL_any (F : List Int) (x : Int) (g : Nat) (w : World) (hF : F.length ≤ 1073741824) (h : StackAt w g F) :
    Calls Tryz.prog 39 #[.pointer (some ⟨g, 0, none⟩), .int .i64 x] w fun e w' => e = .returned (.tuple #[]) ∧ StackAt w' g (F ++ [x]) ∧ Below g w w' := by
  obtain ⟨v, hblk, hown⟩ := h
  have hc := hblk.cell 0
  have hf := hblk.frozen 0
  have hg := hblk.lt
  simp only [List.getElem?_toArray, List.getElem?_cons_zero] at hc
  obtain ⟨i0, hi0, hz0, hz1, hz2⟩ := info_parts intInfo
  go_enter Tryz.func39, Tryz.ntmps39
  go_wp2_with (at_builtin; refine wpList_append_own_at _ rfl (.tmp 8) (.tmp 10) 55 rfl (g + 1) 3 i0 _ 1 8 Tryz.underlying55 hi0 hz0 hz1 hz2 rfl (by omega) _ F.length _ rfl (hown.alloc _) ⟨w.heap.size, 0, none⟩ 1 1 [.int .i64 x] rfl rfl (one_new _ _ _) (one_one _) (by unfold maxLen; omega) (by omega) (by simp; omega) ?_; intro v2 w2 hown2 hg2 _ _; obtain ⟨A2, c2, rfl, _⟩ := own_form hown2; have hb2 : Below g w w2 := ((Below.refl g w).alloc (by omega) (.cells #[.int .i64 x] 3)).grown hg2 (by simp; omega) (fun k hk => by have := (World.ownsRow.lt hown k hk).1; omega); have hne := own_ne hown (g := g) (by omega); have hblk2 := (hblk.alloc (.cells #[.int .i64 x] 3)).grown hg2 hne; have hc2 := hblk2.cell 0; have hf2 := hblk2.frozen 0; simp only [List.getElem?_toArray, List.getElem?_cons_zero] at hc2)
  go_end0
  refine ⟨rfl, ⟨.slice A2 (F.length + 1) c2, ?_, ?_⟩, hb2.setCell (Nat.le_refl _) _⟩
  · exact hblk2.set_ 0 _
  · rw [List.length_append, List.map_append]
    exact own_far hown2 (by simp) _

set_option maxHeartbeats 400000 in
theorem pop_none (g : Nat) (w : World) (h : StackAt w g []) :
    Calls Tryz.prog 40 #[.pointer (some ⟨g, 0, none⟩)] w fun e w' => e = .returned (.tuple #[.int .i64 0, .bool false]) ∧ w = w' := by
  obtain ⟨v, hblk, hown⟩ := h
  obtain ⟨A, c, rfl, hAc⟩ := own_form hown
  have hc := hblk.cell 0
  have hf := hblk.frozen 0
  have hg := hblk.lt
  simp only [List.getElem?_toArray, List.getElem?_cons_zero, List.length_nil] at hc
  go_enter Tryz.func40, Tryz.ntmps40
  go_wp2_with fail
  go_ret2
  exact ⟨rfl, rfl⟩

set_option maxHeartbeats 400000 in
theorem pop_some (F : List Int) (x : Int) (g : Nat) (w : World) (hF : F.length ≤ 1073741824) (h : StackAt w g (F ++ [x])) :
    Calls Tryz.prog 40 #[.pointer (some ⟨g, 0, none⟩)] w fun e w' => e = .returned (.tuple #[.int .i64 x, .bool true]) ∧ StackAt w' g F ∧ Below g w w' := by
  obtain ⟨v, hblk, hown⟩ := h
  have hl : (F ++ [x]).length = F.length + 1 := by simp
  rw [hl] at hown
  obtain ⟨b, c, rfl, hAc, hb1, hb2⟩ := own_some hown (by omega)
  have hc := hblk.cell 0
  have hf := hblk.frozen 0
  have hg := hblk.lt
  have hx : w.cell? ⟨b, F.length, none⟩ = some (.int .i64 x) := own_cell hown rfl (by simp)
  simp only [List.getElem?_toArray, List.getElem?_cons_zero] at hc
  go_enter Tryz.func40, Tryz.ntmps40
  go_wp2_with fail
  go_ret2
  refine ⟨rfl, ⟨_, hblk.set_ 0 _, ?_⟩, (Below.refl g w).setCell (Nat.le_refl _) _⟩
  rw [List.map_append] at hown
  exact own_far (ownsRow_pop (by simp) hown) (by simp) _
end
section
open Go.RowKit

/-- rows of ints that the call owns: block g holds the rows' values -/
def OwnRws (w : World) (g : Nat) (rows : List (List Int)) : Prop := ∃ f : Nat → Value, w.rowIs g 55 rows.length f ∧
  (∀ j, j < rows.length → w.ownsRow (g + 1) 3 1 (f j) (rows.getD j []).length ((rows.getD j []).map (Value.int .i64))) ∧
  (∀ i j b, i < rows.length → j < rows.length → i ≠ j → (f i).ownBlock = some b → (f j).ownBlock ≠ some b)
theorem OwnRws.made (w : World) (n : Nat) : OwnRws (w.alloc (.cells (madeCells #[.slice none 0 0] n) 55)) w.heap.size (List.replicate n []) := by
  refine ⟨fun _ => .slice none 0 0, ?_, fun j hj => ?_, fun i j b _ _ _ h => by simp [Value.ownBlock] at h⟩
  · rw [List.length_replicate]; exact World.rowIs_made _ _ _ _
  · have : (List.replicate n ([] : List Int)).getD j [] = [] := by rw [List.getD, List.getElem?_replicate]; split <;> rfl
    rw [this]; exact World.ownsRow_nil _ _ _ _
theorem own_block {w w' : World} {base e size n : Nat} {v : Value} {xs : List Value} (h : w.ownsRow base e size v n xs) (hk : ∀ b, v.ownBlock = some b → w'.heap[b]? = w.heap[b]?) : w'.ownsRow base e size v n xs := by
  refine ⟨h.1, ?_⟩
  rcases h.2 with hn | ⟨g, cap, cur, rfl, hbg, hg, rest⟩
  · exact .inl hn
  · exact .inr ⟨g, cap, cur, rfl, hbg, (hk g (by simp [Value.ownBlock])).trans hg, rest⟩
theorem OwnRws.below {w w' : World} {g : Nat} {rows : List (List Int)} (h : OwnRws w g rows) (hb : Below w.heap.size w w') : OwnRws w' g rows := by
  obtain ⟨f, h1, h2, h3⟩ := h
  exact ⟨f, h1.of_block (hb.block g h1.lt), fun j hj => own_below' (h2 j hj) hb, h3⟩
theorem rows_set (rows : List (List Int)) (k : Nat) (x : List Int) (h : k < rows.length) (j : Nat) : (rows.set k x).getD j [] = if j = k then x else rows.getD j [] := by
  simp only [List.getD, List.getElem?_set]
  by_cases e : j = k
  · subst e; simp [h]
  · rw [if_neg (fun h => e h.symm), if_neg e]
/-- one append to one of the rows -/
theorem OwnRws.push {w w2 : World} {g k : Nat} {rows : List (List Int)} {x : Int} {v v2 : Value} {f : Nat → Value} {o : Obj} (h1 : w.rowIs g 55 rows.length f)
    (h2 : ∀ j, j < rows.length → w.ownsRow (g + 1) 3 1 (f j) (rows.getD j []).length ((rows.getD j []).map (Value.int .i64)))
    (h3 : ∀ i j b, i < rows.length → j < rows.length → i ≠ j → (f i).ownBlock = some b → (f j).ownBlock ≠ some b)
    (hk : k < rows.length) (hv : f k = v) (hown : w2.ownsRow (g + 1) 3 1 v2 ((rows.getD k []).length + 1) ((rows.getD k []).map (Value.int .i64) ++ [Value.int .i64 x]))
    (hg : (w.alloc o).grownBy w2 v.ownBlock) (hat : v2.ownBlock = v.ownBlock ∨ v2.ownBlock = some (w.alloc o).heap.size) :
    OwnRws (w2.setCell ⟨g, k, none⟩ v2) g (rows.set k (rows.getD k [] ++ [x])) := by
  subst hv
  have hgw := h1.lt
  have hne := own_ne (h2 k hk) (g := g) (by omega)
  have hkeep : ∀ b, b < w.heap.size → some b ≠ (f k).ownBlock → w2.heap[b]? = w.heap[b]? := fun b hb hb2 => (hg.block b (by simp; omega) hb2).trans (Below.heap_alloc w o b hb)
  have h1' := (h1.of_block (hkeep g hgw hne)).set k v2
  refine ⟨_, by rw [List.length_set]; exact h1', fun j hj => ?_, fun i j b hi hj hij => ?_⟩
  · rw [List.length_set] at hj
    rw [rows_set _ _ _ hk]
    by_cases e : j = k
    · rw [if_pos e, if_pos e, List.length_append, List.map_append]
      exact own_far hown (by simp) _
    · rw [if_neg e, if_neg e]
      refine own_far (own_block (h2 j hj) fun b hb => hkeep b ((h2 j hj).lt b hb).2 fun hb2 => ?_) (by simp) _
      exact h3 j k b hj hk e hb hb2.symm
  · rw [List.length_set] at hi hj
    have hfresh : ∀ j, j < rows.length → j ≠ k → ∀ b, (f j).ownBlock = some b → v2.ownBlock ≠ some b := by
      intro j hj hjk b hb hb2
      rcases hat with h | h
      · exact h3 j k b hj hk hjk hb (h ▸ hb2)
      · rw [h] at hb2
        have := ((h2 j hj).lt b hb).2
        simp at hb2; omega
    intro h
    split at h
    · rw [if_neg (by omega)]
      exact fun hb => hfresh j hj (by omega) b hb h
    · rename_i hik
      split
      · exact hfresh i hi hik b h
      · exact h3 i j b hi hj hij h
/-- the rows, to be read -/
theorem OwnRws.read {w : World} {g : Nat} {rows : List (List Int)} (h : OwnRws w g rows) (hx : ∀ r ∈ rows, ∀ x ∈ r, -9223372036854775808 ≤ x ∧ x ≤ 9223372036854775807) (hl : rows.length ≤ 9223372036854775807) :
    (sliceR (sliceR (intR .i64))).one w (fun b => g ≤ b ∧ b < w.heap.size) (.slice (some ⟨g, 0, none⟩) rows.length rows.length) rows := by
  obtain ⟨f, h1, h2, h3⟩ := h
  refine ⟨_, _, rfl, Nat.le_refl _, hl, fun h0 => ⟨g, 0, rfl, ⟨Nat.le_refl _, h1.lt⟩, fun i hi => ⟨[f i], fun j u hu => ?_, ?_⟩⟩⟩
  · cases j with
    | succ j => simp at hu
    | zero =>
      simp only [List.getElem?_cons_zero, Option.some.injEq] at hu
      subst hu
      have : (sliceR (intR .i64)).size = 1 := rfl
      rw [this]
      simpa using h1.cell hi
  · have := h2 i hi
    rw [List.getD, List.getElem?_eq_getElem hi] at this
    have h4 := slice_own1 (r := intR .i64) (Value.int .i64) this rfl (fun a ha => ⟨rfl, by
      have := hx _ (List.getElem_mem hi) a ha
      exact wf_i64_mk this.1 this.2⟩)
    exact slice_mono h4 fun b hb => ⟨by omega, hb.2⟩

theorem getD_get (l : List Int) (m : Nat) (h : m < l.length) : l.getD m 0 = l[m] := by rw [List.getD, List.getElem?_eq_getElem h]; rfl
/-- how far back has come: the rows before i whole, of row i so many -/
structure BackAt (next : List (List Int)) (i m : Nat) (rows : List (List Int)) : Prop where
  len : rows.length = next.length
  count : ∀ k, k < next.length → ∀ x : Nat, ((rows.getD k []).count (x : Int)) = if x < i then (next.getD x []).count (k : Int) else if x = i then ((next.getD i []).take m).count (k : Int) else 0
  only : ∀ r ∈ rows, ∀ y ∈ r, ∃ x : Nat, y = (x : Int) ∧ x < next.length
  small : ∀ k, (rows.getD k []).length ≤ 200 * i + m
theorem BackAt.start (next : List (List Int)) : BackAt next 0 0 (List.replicate next.length []) := by
  have e : ∀ k, (List.replicate next.length ([] : List Int)).getD k [] = [] := fun k => by rw [List.getD, List.getElem?_replicate]; split <;> rfl
  refine ⟨by simp, fun k hk x => ?_, fun r hr y hy => ?_, fun k => by rw [e]; simp⟩
  · rw [e]; simp
  · rw [List.mem_replicate] at hr; rw [hr.2] at hy; simp at hy
theorem BackAt.skip {next : List (List Int)} {i m : Nat} {rows : List (List Int)} (h : BackAt next i m rows) (hm : m < (next.getD i []).length) (hy : ¬ (0 ≤ (next.getD i []).getD m 0 ∧ (next.getD i []).getD m 0 < (next.length : Int))) : BackAt next i (m + 1) rows := by
  refine ⟨h.len, fun k hk x => ?_, h.only, fun k => by have := h.small k; omega⟩
  rw [h.count k hk x]
  split
  · rfl
  · split
    · have : ((next.getD i []))[m] ≠ (k : Int) := by
        intro e
        rw [getD_get _ _ hm, e] at hy; omega
      rw [List.take_succ_eq_append_getElem hm, List.count_append, List.count_singleton, beq_eq_false_iff_ne.2 this]; rfl
    · rfl
theorem BackAt.push {next : List (List Int)} {i m : Nat} {rows : List (List Int)} (h : BackAt next i m rows) (hi : i < next.length) (hm : m < (next.getD i []).length) (q : Nat) (hq : (next.getD i []).getD m 0 = (q : Int)) (hql : q < next.length) :
    BackAt next i (m + 1) (rows.set q (rows.getD q [] ++ [(i : Int)])) := by
  have hq' : ((next.getD i []))[m] = (q : Int) := by rw [← hq, getD_get _ _ hm]
  have hqr : q < rows.length := by rw [h.len]; exact hql
  refine ⟨by rw [List.length_set, h.len], fun k hk x => ?_, fun r hr y hy => ?_, fun k => ?_⟩
  · rw [rows_set _ _ _ hqr]
    have hc := h.count k hk x
    by_cases e : k = q
    · subst e
      rw [if_pos rfl, List.count_append, hc, List.count_singleton]
      by_cases ex : x = i
      · subst ex
        simp only [Nat.lt_irrefl, if_false, if_true, ↓reduceIte, beq_self_eq_true]
        rw [List.take_succ_eq_append_getElem hm, List.count_append, List.count_singleton, hq']
        simp
      · have : ((i : Int) == (x : Int)) = false := by simp; omega
        rw [this, if_neg ex]; simp [ex]
    · rw [if_neg e, hc]
      by_cases ex : x = i
      · subst ex
        simp only [Nat.lt_irrefl, if_false, if_true, ↓reduceIte]
        rw [List.take_succ_eq_append_getElem hm, List.count_append, List.count_singleton, hq']
        have : ((q : Int) == (k : Int)) = false := by simp; omega
        rw [this]; simp
      · rw [if_neg ex, if_neg ex]
  · rcases List.mem_or_eq_of_mem_set hr with h1 | h1
    · exact h.only r h1 y hy
    · subst h1
      rcases List.mem_append.1 hy with h2 | h2
      · have : rows.getD q [] ∈ rows := by rw [List.getD, List.getElem?_eq_getElem hqr]; exact List.getElem_mem hqr
        exact h.only _ this y h2
      · simp at h2; exact ⟨i, h2, hi⟩
  · rw [rows_set _ _ _ hqr]
    split
    · rename_i e; subst e; have := h.small k; rw [List.length_append, List.length_singleton]; omega
    · have := h.small k; omega
theorem BackAt.row {next : List (List Int)} {i : Nat} {rows : List (List Int)} (h : BackAt next i (next.getD i []).length rows) (hr : (next.getD i []).length ≤ 200) : BackAt next (i + 1) 0 rows := by
  refine ⟨h.len, fun k hk x => ?_, h.only, fun k => by have := h.small k; omega⟩
  rw [h.count k hk x]
  by_cases ex : x = i
  · subst ex
    rw [if_neg (by omega), if_pos rfl, if_pos (by omega), List.take_length]
  · by_cases h2 : x < i
    · rw [if_pos h2, if_pos (by omega)]
    · rw [if_neg h2, if_neg ex, if_neg (by omega)]; simp

set_option maxHeartbeats 1000000 in
theorem back_any (next : List (List Int)) (vn : Value) (w : World) (hl : next.length ≤ 100) (hr : ∀ r ∈ next, r.length ≤ 200) (hn : RR w vn next) :
    Calls Tryz.prog 38 #[vn] w fun e w' => e = .returned (.slice (some ⟨w.heap.size, 0, none⟩) next.length next.length) ∧ ∃ rows, BackAt next next.length 0 rows ∧ OwnRws w' w.heap.size rows ∧ Below w.heap.size w w' := by
  obtain ⟨A, c, rfl, hc⟩ := hn.form
  have hmk := run_make_row' (P := Tryz.prog) 65 55 (.slice none 0 0) 24 Tryz.underlying65 rowInfo rfl .i64 .i64 next.length (by omega) (by omega)
  obtain ⟨i0, hi0, hz0, hz1, hz2⟩ := info_parts intInfo
  have Hr := hide hr
  clear hr
  go_enter Tryz.func38, Tryz.ntmps38
  go_wp2_with fail
  have ho := OwnRws.made w next.length
  have hb0 := (Below.refl w.heap.size w).alloc (Nat.le_refl _) (.cells (madeCells #[.slice none 0 0] next.length) 55)
  clear hmk
  go_loopw [13] (fun i wr => ∃ (k : Nat) (L : List (List Int)), k ≤ next.length ∧ i = .int .i64 (k : Int) ∧ BackAt next k 0 L ∧ OwnRws wr w.heap.size L ∧ Below w.heap.size w wr) (fun i wr => next.length - (intOf i).toNat)
  case atStart => exact ⟨0, _, Nat.zero_le _, rfl, BackAt.start next, ho, hb0⟩
  case round =>
    clear ho hb0
    obtain ⟨k, L, hk, rfl, hL, ho, hb⟩ := hrel
    by_cases hlt : k < next.length
    · obtain ⟨b, o, A', c', rfl, hcell0, hc1, hc2, hri⟩ := hn.at_ hlt
      have hcell := (hb.cell (World.block_lt_of_cell? w _ hcell0)).trans hcell0
      have hrow : (next.getD k []).length ≤ 200 := by
        rw [List.getD, List.getElem?_eq_getElem hlt]; exact Hr.out _ (List.getElem_mem hlt)
      obtain ⟨row, hrw⟩ : ∃ row, row = next.getD k [] := ⟨_, rfl⟩
      rw [← hrw] at hcell hc1 hri hrow
      have Hrw := hide hrw
      have HL0 := hide hL
      have Hb := hide hb
      have Ho := hide ho
      clear hrw hcell0 hL hb ho
      go_wp2_with fail
      go_loopw [20] (fun i wx => ∃ (m : Nat) (L : List (List Int)), m ≤ row.length ∧ i = .int .i64 (m : Int) ∧ BackAt next k m L ∧ OwnRws wx w.heap.size L ∧ Below w.heap.size w wx) (fun i wx => row.length - (intOf i).toNat)
      case atStart => exact ⟨0, L, Nat.zero_le _, rfl, HL0.out, Ho.out, Hb.out⟩
      case round =>
        clear hcell HL0 Hb Ho
        obtain ⟨m, L, hm, rfl, hL, ho, hb⟩ := hrel
        by_cases hmlt : m < row.length
        · obtain ⟨b2, o2, rfl, hcell2, hy1, hy2⟩ := (hri.below hb).at_ hmlt
          have hpl := labelPlace_any next _ (row.getD m 0) wr (by omega) (hn.below hb)
          by_cases hp : 0 ≤ row.getD m 0 ∧ row.getD m 0 < (next.length : Int)
          · obtain ⟨q, hq⟩ := Int.eq_ofNat_of_zero_le hp.1
            have hql : q < next.length := by omega
            have hpp : decide (0 ≤ row.getD m 0 ∧ row.getD m 0 < (next.length : Int)) = true := decide_eq_true hp
            rw [hpp] at hpl
            rw [hq] at hpl hcell2
            have hst := hL.push hlt (by rw [← Hrw.out]; exact hmlt) q (by rw [← Hrw.out]; exact hq) hql
            have hlen := hL.len
            have hsm := hL.small q
            have Hpl := hide hpl
            clear hpl hpp hp hq hL
            obtain ⟨f, r1, r2, r3⟩ := ho
            obtain ⟨ql, hqq⟩ : ∃ ql, ql = L.getD q [] := ⟨_, rfl⟩
            have hown := r2 q (by omega)
            rw [← hqq] at hown hsm
            have c1 := r1.cell (i := q) (by omega)
            have f1 := r1.frozen q
            have hgl := r1.lt
            obtain ⟨v, hv⟩ : ∃ v, f q = v := ⟨_, rfl⟩
            rw [hv] at c1 hown
            obtain ⟨A1, cp1, rfl, hcp1⟩ := own_form hown
            have R1 := hide r1
            have R2 := hide r2
            have R3 := hide r3
            have Hqq := hide hqq
            have Hv := hide hv
            have Hst := hide hst
            have Hlen := hide hlen
            clear r1 r2 r3 hqq hv hst hlen
            go_wp2_with (first
              | (go_at_call 37; refine Hpl.out.mono ?_; rintro e w2 ⟨rfl, rfl⟩)
              | (at_builtin; refine wpList_append_own_at _ rfl (.tmp 32) (.tmp 34) 55 rfl (w.heap.size + 1) 3 i0 _ 1 8 Tryz.underlying55 hi0 hz0 hz1 hz2 rfl (by omega) _ ql.length _ rfl (hown.alloc _) ⟨wr.heap.size, 0, none⟩ 1 1 [.int .i64 (k : Int)] rfl rfl (one_new _ _ _) (one_one _) (by unfold maxLen; omega) (by omega) (by simp; omega) ?_; intro v2 w2 hown2 hg2 _ hat; obtain ⟨A2, c2, rfl, _⟩ := own_form hown2; have hb2 := (hb.alloc (by omega) (.cells #[.int .i64 (k : Int)] 3)).grown hg2 (by simp; omega) (fun j hj => by have := (World.ownsRow.lt hown j hj).1; omega); have hne := own_ne hown (g := w.heap.size) (by omega); have hbk : w2.heap[w.heap.size]? = wr.heap[w.heap.size]? := (hg2.block _ (by simp; omega) hne).trans (Below.heap_alloc wr _ _ hgl); have hcx := (World.cell?_of_block (a := ⟨w.heap.size, q, none⟩) hbk).trans c1; have hfx := (World.frozen?_of_block (a := ⟨w.heap.size, q, none⟩) hbk).trans f1))
            go_roundw
            case rel =>
              refine ⟨m + 1, _, by omega, by go_num, Hst.out, ?_, hb2.setCell (Nat.le_refl _) _⟩
              exact OwnRws.push (o := .cells #[.int .i64 (k : Int)] 3) R1.out R2.out R3.out (by rw [Hlen.out]; exact hql) Hv.out (by rw [← Hqq.out]; exact hown2) hg2 hat
            case measure => simp [intOf]; omega
          · have hpp : decide (0 ≤ row.getD m 0 ∧ row.getD m 0 < (next.length : Int)) = false := decide_eq_false hp
            rw [hpp] at hpl
            have hst := hL.skip (by rw [← Hrw.out]; exact hmlt) (by rw [← Hrw.out]; exact hp)
            have Hpl := hide hpl
            have Hst := hide hst
            clear hpl hpp hp hst hL
            generalize row.getD m 0 = y at *
            go_wp2_with (go_at_call 37; refine Hpl.out.mono ?_; rintro e w2 ⟨rfl, rfl⟩)
            go_roundw
            case rel => exact ⟨m + 1, L, by omega, by go_num, Hst.out, ho, hb⟩
            case measure => simp [intOf]; omega
        · obtain rfl : m = row.length := by omega
          rw [Hrw.out] at hL
          have hL2 := hL.row (by rw [← Hrw.out]; exact hrow)
          have HL2 := hide hL2
          clear hL hL2
          go_wp2_with fail
          go_roundw
          case rel => exact ⟨k + 1, L, by omega, by go_num, HL2.out, ho, hb⟩
          case measure => simp [intOf]; omega
    · obtain rfl : k = next.length := by omega
      have HL := hide hL
      clear hL
      go_wp2_with fail
      go_ret
      exact ⟨rfl, L, HL.out, ho, hb⟩
end
end Go.Proofs.YtbijbnfgccdneaaGreat
