/-
  Parts of the proof: AlW, AlX, AlM, AlN, L2, EvAt, D1, D2.
-/
import Derived.Test.YtoefohadgmlecaaGreatLid4
set_option linter.unusedVariables false
set_option linter.unusedSimpArgs false
namespace Go.Proofs.YtoefohadgmlecaaGreat
section
open Go.RowKit

mutual
def AV.rpz (id : Nat) (cells : List AV) : AV → AV
  | .op id' i j => if id' = id then (if i = 0 then .rp (cells.drop j) else .any) else .op id' i j
  | .osl id' => if id' = id then .any else .osl id'
  | .agg cs => .agg (AV.rpzL id cells cs)
  | .tup cs => .tup (AV.rpzL id cells cs)
  | .fn f cs => .fn f (AV.rpzL id cells cs)
  | .bfn f cs => .bfn f (AV.rpzL id cells cs)
  | .any => .any
  | .c v => .c v
  | .sl sz rows => .sl sz rows
  | .rp cs => .rp cs
def AV.rpzL (id : Nat) (cells : List AV) : List AV → List AV
  | [] => []
  | a :: l => a.rpz id cells :: AV.rpzL id cells l
end
theorem rpzL_map (id : Nat) (cells : List AV) : ∀ l : List AV, AV.rpzL id cells l = l.map (·.rpz id cells)
  | [] => rfl
  | a :: l => by rw [AV.rpzL, rpzL_map id cells l]; rfl
def rpzEnv (id : Nat) (cells : List AV) : List (Nat × AV) → List (Nat × AV)
  | [] => []
  | (t, av) :: l => (t, av.rpz id cells) :: rpzEnv id cells l
theorem rpzEnv_get (id : Nat) (cells : List AV) : ∀ (l : List (Nat × AV)) (t : Nat), aget (rpzEnv id cells l) t = (aget l t).rpz id cells
  | [], t => rfl
  | (k, av) :: l, t => by
    unfold rpzEnv aget
    split
    · rfl
    · exact rpzEnv_get id cells l t
def treeObj : AObj → Prop
  | .box _ cells => treeL cells
  | .row _ _ _ => True
  | .map _ => True
  | .ghost _ _ => False
def treeTab (id : Nat) : ATab → Prop
  | [] => True
  | (k, some o) :: l => (k = id ∨ treeObj o) ∧ treeTab id l
  | (_, none) :: l => treeTab id l
theorem treeTab_get {id : Nat} : ∀ {l : ATab} {k : Nat} {o : AObj}, treeTab id l → l.get k = some o → k = id ∨ treeObj o
  | [], k, o, _, h => by cases h
  | (k', some oo) :: l, k, o, ht, h => by
    rw [ATab.get_cons] at h
    split at h
    · rename_i e
      cases h
      rw [e]
      exact ht.1
    · exact treeTab_get ht.2 h
  | (k', none) :: l, k, o, ht, h => by
    rw [ATab.get_cons] at h
    split at h
    · cases h
    · exact treeTab_get (l := l) ht h
theorem rt_rpz {w : World} {S : Nat → Prop} {x : Value} {av : AV} (h : RT w S x av) (id : Nat) (cells : List AV) : av.rpz id cells = av := by
  induction h with
  | agg xs cs hn hr ih =>
    simp only [AV.rpz, rpzL_map, AV.agg.injEq]
    apply List.ext_getElem?
    intro j
    rw [List.getElem?_map]
    cases hj : cs[j]? with
    | none => rfl
    | some av =>
      have hlt : j < xs.size := by rw [hn]; exact (List.getElem?_eq_some_iff.1 hj).1
      simp [ih j _ av (Array.getElem?_eq_getElem hlt) hj]
  | tup xs cs hn hr ih =>
    simp only [AV.rpz, rpzL_map, AV.tup.injEq]
    apply List.ext_getElem?
    intro j
    rw [List.getElem?_map]
    cases hj : cs[j]? with
    | none => rfl
    | some av =>
      have hlt : j < xs.size := by rw [hn]; exact (List.getElem?_eq_some_iff.1 hj).1
      simp [ih j _ av (Array.getElem?_eq_getElem hlt) hj]
  | fn f xs cs hn hr ih =>
    simp only [AV.rpz, rpzL_map, AV.fn.injEq]
    refine ⟨trivial, ?_⟩
    apply List.ext_getElem?
    intro j
    rw [List.getElem?_map]
    cases hj : cs[j]? with
    | none => rfl
    | some av =>
      have hlt : j < xs.size := by rw [hn]; exact (List.getElem?_eq_some_iff.1 hj).1
      simp [ih j _ av (Array.getElem?_eq_getElem hlt) hj]
  | bfn f xs cs hn hr ih =>
    simp only [AV.rpz, rpzL_map, AV.bfn.injEq]
    refine ⟨trivial, ?_⟩
    apply List.ext_getElem?
    intro j
    rw [List.getElem?_map]
    cases hj : cs[j]? with
    | none => rfl
    | some av =>
      have hlt : j < xs.size := by rw [hn]; exact (List.getElem?_eq_some_iff.1 hj).1
      simp [ih j _ av (Array.getElem?_eq_getElem hlt) hj]
  | _ => rfl
theorem rpz_lt {id nx : Nat} {cells : List AV} : ∀ {av : AV}, av.lt nx → (av.rpz id cells).lt nx := by
  intro av
  induction av using AV.rec (motive_2 := fun _ => True) (motive_3 := fun l => AV.ltL nx l → AV.ltL nx (AV.rpzL id cells l)) <;> simp_all [AV.lt, AV.ltL, AV.rpz, AV.rpzL]
  · split <;> simp_all [AV.lt]
  · split
    · split <;> simp [AV.lt]
    · simp_all [AV.lt]
/-- a variable of its own is written no more: pointers to it are pointers to what is read -/
theorem weak_rpM {n nx : Nat} {env : List (Nat × AV)} {tab : ATab} (id : Nat) {ty : TypeId} {cells : List AV} (hid : tab.get id = some (.box ty cells)) (ht : treeML cells) (hot : treeTab id tab) : Weak ⟨n, env, tab, nx⟩ ⟨n, rpzEnv id cells env, (id, none) :: tab, nx⟩ := by
  intro cx a w L h
  have hget : ∀ k o, ATab.get ((id, none) :: tab) k = some o → k ≠ id ∧ tab.get k = some o := fun k o hk => by
    rw [ATab.get_cons] at hk
    split at hk
    · cases hk
    · exact ⟨by assumption, hk⟩
  have hS : ∀ b, Sx cx w tab L b → Sx cx w ((id, none) :: tab) L b := fun b hb => ⟨hb.1, hb.2.1, fun k o hk => hb.2.2 k o (hget k o hk).2⟩
  have hK : ∀ k p, Kx ((id, none) :: tab) L k = some p → k ≠ id ∧ Kx tab L k = some p := fun k p hk => by
    unfold Kx at *
    cases ho : ATab.get ((id, none) :: tab) k with
    | none => simp [ho] at hk
    | some o =>
      obtain ⟨h1, h2⟩ := hget k o ho
      refine ⟨h1, ?_⟩
      rw [h2]
      simpa [ho] using hk
  obtain ⟨g, cs, hL, hbg, hheap, hcs, hx⟩ := h.lay.objs id _ hid
  have hg : vblk (L id) = some g := by rw [hL]; rfl
  have hSg : Sx cx w ((id, none) :: tab) L g := ⟨(Array.getElem?_eq_some_iff.1 hheap).1, ⟨.inr hbg, fun hX => (h.lay.ex g hX).2 id _ hid hg⟩, fun k o hk hkg => by
    obtain ⟨h1, h2⟩ := hget k o hk
    exact h1 (h.lay.sep k id o _ g h2 hid hkg hg)⟩
  have conv : ∀ x av, RVx cx w tab L x av → RVx cx w ((id, none) :: tab) L x (av.rpz id cells) := fun x av hr => by
    induction hr with
    | tree h0 =>
      rw [rt_rpz h0]
      exact .tree (h0.mono (fun _ _ => rfl) hS)
    | osl x id' h0 =>
      unfold AV.rpz
      split
      · exact .tree (.any _)
      · exact .osl x id' fun sz v e => h0 sz v (hK id' _ e).2
    | op x id' i j h0 =>
      unfold AV.rpz
      split
      · rename_i e
        subst e
        split
        · rename_i e
          subst e
          obtain ⟨g', hg', rfl⟩ := h0 _ _ (kx_of hid)
          rw [hg] at hg'
          cases hg'
          rw [Nat.zero_mul, Nat.zero_add]
          refine .tree (.rp g j _ (fun k => cs[j + k]?.getD undef) hSg (fun k av hk => ?_) (fun k av hk => ?_))
          · rw [List.getElem?_drop] at hk
            have hlt : j + k < cs.size := by rw [hcs]; exact (List.getElem?_eq_some_iff.1 hk).1
            rw [cell_of_row w g (j + k) cs ty (0, 0) hheap, Array.getElem?_eq_getElem hlt]
            rfl
          · rw [List.getElem?_drop] at hk
            have hlt : j + k < cs.size := by rw [hcs]; exact (List.getElem?_eq_some_iff.1 hk).1
            rw [Array.getElem?_eq_getElem hlt, Option.getD_some]
            exact (treeM_of (hx (j + k) _ av (Array.getElem?_eq_getElem hlt) hk).1 (treeML_mem ht (List.mem_of_getElem? hk))).mono (fun _ _ => rfl) hS
        · exact .tree (.any _)
      · exact .op x id' i j fun sz v e => h0 sz v (hK id' _ e).2
    | agg xs cs' hn hr ih =>
      simp only [AV.rpz, rpzL_map]
      refine .agg xs _ (by simpa using hn) fun j x av h1 h2 => ?_
      rw [List.getElem?_map] at h2
      cases hj : cs'[j]? with
      | none => simp [hj] at h2
      | some av' =>
        simp [hj] at h2
        subst h2
        exact ih j x av' h1 hj
    | tup xs cs' hn hr ih =>
      simp only [AV.rpz, rpzL_map]
      refine .tup xs _ (by simpa using hn) fun j x av h1 h2 => ?_
      rw [List.getElem?_map] at h2
      cases hj : cs'[j]? with
      | none => simp [hj] at h2
      | some av' =>
        simp [hj] at h2
        subst h2
        exact ih j x av' h1 hj
    | fn f xs cs' hn hr ih =>
      simp only [AV.rpz, rpzL_map]
      refine .fn f xs _ (by simpa using hn) fun j x av h1 h2 => ?_
      rw [List.getElem?_map] at h2
      cases hj : cs'[j]? with
      | none => simp [hj] at h2
      | some av' =>
        simp [hj] at h2
        subst h2
        exact ih j x av' h1 hj
    | bfn f xs cs' hn hr ih =>
      simp only [AV.rpz, rpzL_map]
      refine .bfn f xs _ (by simpa using hn) fun j x av h1 h2 => ?_
      rw [List.getElem?_map] at h2
      cases hj : cs'[j]? with
      | none => simp [hj] at h2
      | some av' =>
        simp [hj] at h2
        subst h2
        exact ih j x av' h1 hj
  refine ⟨L, ⟨⟨h.lay.below, fun k o hk => ?_, fun k k' o o' g' h1 h2 => h.lay.sep k k' o o' g' (hget k o h1).2 (hget k' o' h2).2, fun b hb => ⟨(h.lay.ex b hb).1, fun k o hk => (h.lay.ex b hb).2 k o (hget k o hk).2⟩⟩, h.size, h.defers.mono (fun _ _ => rfl) hS, fun k o hk => h.young k o (hget k o hk).2, fun t => ?_⟩, hS⟩
  · obtain ⟨h1, h2⟩ := hget k o hk
    have ho := h.lay.objs k o h2
    have htr := (treeTab_get hot h2).resolve_left h1
    cases o with
    | box t cells' =>
      obtain ⟨g', cs', h3, h4, h5, h6, h7⟩ := ho
      exact ⟨g', cs', h3, h4, h5, h6, fun j x av h8 h9 => ⟨.tree ((tree_of (h7 j x av h8 h9).1 (treeL_iff.1 htr av (List.mem_of_getElem? h9))).mono (fun _ _ => rfl) hS), (h7 j x av h8 h9).2⟩⟩
    | row e sz rows =>
      obtain ⟨h3, xs, h4, h5, h6⟩ := ho
      refine ⟨h3, xs, h4, h5, fun i j row av h7 h8 => ?_⟩
      obtain ⟨x, hx, hr⟩ := h6 i j row av h7 h8
      exact ⟨x, hx, hr.mono (fun _ _ => rfl) hS⟩
    | map ents => exact ho
    | ghost vs env => exact htr.elim
  · have e1 : (⟨n, rpzEnv id cells env, (id, none) :: tab, nx⟩ : ASt).get t = ((⟨n, env, tab, nx⟩ : ASt).get t).rpz id cells := by
      unfold ASt.get
      simp only
      split
      · exact rpzEnv_get ..
      · simp [AV.rpz]
    rw [e1]
    exact ⟨conv _ _ (h.env t).1, rpz_lt (h.env t).2⟩
theorem treeML_of : ∀ {l : List AV}, treeL l → treeML l
  | [], _ => trivial
  | a :: l, h => ⟨by
      have := h.1
      cases a <;> first | exact this | exact this.elim, treeML_of h.2⟩
theorem weak_rp {n nx : Nat} {env : List (Nat × AV)} {tab : ATab} (id : Nat) {ty : TypeId} {cells : List AV} (hid : tab.get id = some (.box ty cells)) (ht : treeL cells) (hot : treeTab id tab) : Weak ⟨n, env, tab, nx⟩ ⟨n, rpzEnv id cells env, (id, none) :: tab, nx⟩ := weak_rpM id hid (treeML_of ht) hot
end
section
open Go.RowKit
theorem weak_frz (st : ASt) (id : Nat) : Weak st (frz1 st id) := fun cx a w L h => ⟨L, (conc_frz1 h id).1, fun b hb => ⟨hb.1, hb.2.1, fun k o hk => by
  unfold frz1 at hk
  split at hk
  · simp only [ATab.get_cons, frzTab_get] at hk
    split at hk
    · cases hk
    · cases hg : st.tab.get k with
      | none => simp [hg] at hk
      | some o' => exact hb.2.2 k o' hg
  · exact hb.2.2 k o hk⟩⟩
end
section
open Go.RowKit

/-- what lies outside of the call's own stays -/
structure Fz (w : World) (tab : ATab) (L : Nat → Value) (w' : World) (tab' : ATab) (L' : Nat → Value) : Prop where
  size : w.heap.size ≤ w'.heap.size
  keep : ∀ k, k < w.heap.size → (∀ id o, tab.get id = some o → vblk (L id) ≠ some k) → w'.heap[k]? = w.heap[k]?
  young : ∀ id o g, tab'.get id = some o → vblk (L' id) = some g → g < w.heap.size → ∃ id2 o2, tab.get id2 = some o2 ∧ vblk (L id2) = some g
section
variable {P : Program} {cx : Cx} {a : Act} {w w' w'' : World} {st st' : ASt} {tab tab' tab'' : ATab} {L L' L'' : Nat → Value} {nx nx' : Nat}
theorem Fz.refl : Fz w tab L w tab L := ⟨Nat.le_refl _, fun _ _ _ => rfl, fun id o g h1 h2 _ => ⟨id, o, h1, h2⟩⟩
theorem Fz.trans (h : Fz w tab L w' tab' L') (k : Fz w' tab' L' w'' tab'' L'') : Fz w tab L w'' tab'' L'' :=
  ⟨Nat.le_trans h.size k.size,
   fun j hj hn => (k.keep j (Nat.lt_of_lt_of_le hj h.size) fun id o h1 h2 => (h.young id o j h1 h2 hj).elim fun id2 ⟨o2, h3, h4⟩ => hn id2 o2 h3 h4).trans (h.keep j hj hn),
   fun id o g h1 h2 hg => (k.young id o g h1 h2 (Nat.lt_of_lt_of_le hg h.size)).elim fun id2 ⟨o2, h3, h4⟩ => h.young id2 o2 g h3 h4 hg⟩
theorem weak_fz (hw : Weak st st') (h : Conc cx a w st L) : ∃ L', Conc cx a w st' L' ∧ Fz w st.tab L w st'.tab L' := by
  obtain ⟨L', h1, h2⟩ := hw _ _ _ _ h
  refine ⟨L', h1, Nat.le_refl _, fun _ _ _ => rfl, fun id o g h3 h4 h5 => ?_⟩
  refine Classical.byContradiction fun hno => ?_
  have hS : Sx cx w st.tab L g := ⟨h5, ⟨.inr ((h1.lay.objs id o h3).ge h4).1, fun hX => (h1.lay.ex g hX).2 id o h3 h4⟩, fun id2 o2 h6 h7 => hno ⟨id2, o2, h6, h7⟩⟩
  exact (h2 g hS).2.2 id o h3 h4
theorem Fz.below (hy : ∀ id o g, tab.get id = some o → vblk (L id) = some g → g < w.heap.size) (hb : Below w.heap.size w w') : Fz w tab L w' tab L := ⟨hb.size, fun k hk _ => hb.block k hk, fun id o g h1 h2 _ => ⟨id, o, h1, h2⟩⟩
abbrev AfterZ (cx : Cx) (a : Act) (w : World) (tab : ATab) (L : Nat → Value) (t : Nat) (Q : Exit → ASt → Prop) : Exit → Act → World → Prop := fun e a' w' => ∃ st' L', Q e st' ∧ Conc cx a' w' st' L' ∧ Fz w tab L w' st'.tab L' ∧ ActSame (fun k => k = t) a a'
end
end
section
open Go.RowKit
section
variable {P : Program} {rs : List ResultVar} {vs : Array Value} {n nx g k i : Nat} {K : AV → ASt → Prop} {st : ASt} {o : AObj} {T : ATab}
end
section
variable {P : Program} {cx : Cx} {a : Act} {w : World} {st : ASt} {L : Nat → Value}
end
/-- code, as it is, and what lies outside of the call's own stays -/
def SCZ (P : Program) (c : Code) (t : Nat) (Q : Exit → ASt → Prop) (st : ASt) : Prop := ∀ (cx : Cx) (a : Act) (w : World) (L : Nat → Value), Conc cx a w st L → c.wp P (AfterZ cx a w st.tab L t Q) a w
theorem SCZ.weak {P : Program} {c : Code} {t : Nat} {Q : Exit → ASt → Prop} {st st' : ASt} (hw : Weak st st') (h : SCZ P c t Q st') : SCZ P c t Q st := fun cx a w L hc => by
  obtain ⟨L', hc', hz⟩ := weak_fz hw hc
  exact Code.wp_mono (fun e a' w' ⟨st2, L2, h1, h2, h3, h4⟩ => ⟨st2, L2, h1, h2, hz.trans h3, h4⟩) (h cx a w L' hc')
end
section
open Go.RowKit
set_option maxRecDepth 100000 in
theorem lcompares_A (x : Inst) : ADet Tryz.prog 8 [.agg (eInst x)] (val (.bool (decide (3 ≤ x.op) && decide (x.op ≤ 8)))) := by
  refine adet_of_code mixedT Tryz.func8 rfl (by decide) Tryz.ntmps8 Tryz.results8 rfl (val_ok _) ?_
  by_cases g : 3 ≤ x.op
  · have d1 : decide (3 ≤ x.op) = true := decide_eq_true g
    (repeat' (first | simp (maxSteps := 5000000) (implicitDefEqProofs := false) only [ruA, ruB, aEv, aTake, aLoad, aField, aIndex, aLen, aBin, bin2, aUn, un1, aExtract, aConv, ASt.get, aget, ASt.put, aStore, aBox, aAppend, aBuildSlice, aMake, aBuild, aFill, oneParts, allC, aBinS, yv, aCells, oneC, oneCL, treeC, treeL, treeML, treeM_c, treeM_sl, treeM_rp, treeM_any, treeM_fn, treeM_bfn, aLit, aDst, aSrc, appTab, Value.cells, Value.oneCell', envOf, aResL, aOne, ↓reduceIte, reduceCtorEq, forall_const, Nat.reduceLT, Nat.reduceEqDiff, Nat.reduceAdd, Nat.reduceMul, Nat.reduceSub, Nat.reduceLeDiff, Nat.reduceBEq, eq_self, implies_true, ne_eq, dref, dref1, dref2, aExecS, aStoreB, aTakes, aTakeE, aElder, aFrom, aFresh, isLoad, aBuildSlice1, frzs, frz1, ownIds, AV.frz, AV.frzL, frzEnv, AV.shift, AV.shiftL, aFieldV, aSliceW, aSliceO, aSlice, aSliceR, aSliceS, aBd, aMax, frzAVs, frzAV, frzTab, AObj.frz, aMM, aNilS, aMay, aNil, tyF_36_0, tyA_3, tyS_3, tyK_3, d1, Bool.true_and] | (with_reducible refine aIf_split (fun _ => ?_) (fun _ => ?_)) | (with_reducible refine aSel_split (fun _ => ?_) (fun _ => ?_)) | (with_reducible refine aGd_split (fun _ => ?_) (fun _ => ?_)) | (with_reducible refine aDraw_quiet (by kernel_rfl) ?_)))
  · have d1 : decide (3 ≤ x.op) = false := decide_eq_false g
    (repeat' (first | simp (maxSteps := 5000000) (implicitDefEqProofs := false) only [ruA, ruB, aEv, aTake, aLoad, aField, aIndex, aLen, aBin, bin2, aUn, un1, aExtract, aConv, ASt.get, aget, ASt.put, aStore, aBox, aAppend, aBuildSlice, aMake, aBuild, aFill, oneParts, allC, aBinS, yv, aCells, oneC, oneCL, treeC, treeL, treeML, treeM_c, treeM_sl, treeM_rp, treeM_any, treeM_fn, treeM_bfn, aLit, aDst, aSrc, appTab, Value.cells, Value.oneCell', envOf, aResL, aOne, ↓reduceIte, reduceCtorEq, forall_const, Nat.reduceLT, Nat.reduceEqDiff, Nat.reduceAdd, Nat.reduceMul, Nat.reduceSub, Nat.reduceLeDiff, Nat.reduceBEq, eq_self, implies_true, ne_eq, dref, dref1, dref2, aExecS, aStoreB, aTakes, aTakeE, aElder, aFrom, aFresh, isLoad, aBuildSlice1, frzs, frz1, ownIds, AV.frz, AV.frzL, frzEnv, AV.shift, AV.shiftL, aFieldV, aSliceW, aSliceO, aSlice, aSliceR, aSliceS, aBd, aMax, frzAVs, frzAV, frzTab, AObj.frz, aMM, aNilS, aMay, aNil, tyF_36_0, tyA_3, tyS_3, tyK_3, d1, Bool.false_and] | (with_reducible refine aIf_split (fun _ => ?_) (fun _ => ?_)) | (with_reducible refine aSel_split (fun _ => ?_) (fun _ => ?_)) | (with_reducible refine aGd_split (fun _ => ?_) (fun _ => ?_)) | (with_reducible refine aDraw_quiet (by kernel_rfl) ?_)))
set_option maxRecDepth 100000 in
theorem lnames_A (x : Inst) : ADet Tryz.prog 7 [.agg (eInst x)] (val (.bool (namesB x))) := by
  refine adet_of_code mixedT Tryz.func7 rfl (by decide) Tryz.ntmps7 Tryz.results7 rfl (val_ok _) ?_
  have hC := lcompares_A x
  unfold namesB
  by_cases g : 3 ≤ x.op ∧ x.op ≤ 8
  · have e : (decide (3 ≤ x.op) && decide (x.op ≤ 8)) = true := by simp [g]
    rw [e] at hC
    rw [if_pos g]
    (repeat' (first | simp (maxSteps := 5000000) (implicitDefEqProofs := false) only [ruA, ruB, aEv, aTake, aLoad, aField, aIndex, aLen, aBin, bin2, aUn, un1, aExtract, aConv, ASt.get, aget, ASt.put, aStore, aBox, aAppend, aBuildSlice, aMake, aBuild, aFill, oneParts, allC, aBinS, yv, aCells, oneC, oneCL, treeC, treeL, treeML, treeM_c, treeM_sl, treeM_rp, treeM_any, treeM_fn, treeM_bfn, aLit, aDst, aSrc, appTab, Value.cells, Value.oneCell', envOf, aResL, aOne, ↓reduceIte, reduceCtorEq, forall_const, Nat.reduceLT, Nat.reduceEqDiff, Nat.reduceAdd, Nat.reduceMul, Nat.reduceSub, Nat.reduceLeDiff, Nat.reduceBEq, eq_self, implies_true, ne_eq, dref, dref1, dref2, aExecS, aStoreB, aTakes, aTakeE, aElder, aFrom, aFresh, isLoad, aBuildSlice1, frzs, frz1, ownIds, AV.frz, AV.frzL, frzEnv, AV.shift, AV.shiftL, aFieldV, aSliceW, aSliceO, aSlice, aSliceR, aSliceS, aBd, aMax, frzAVs, frzAV, frzTab, AObj.frz, aMM, aNilS, aMay, aNil, tyA_36, tyS_36, tyF_36_1, tyF_34_0, tyA_3, tyS_3, tyF_36_2, tyK_3, tyF_36_0] | (with_reducible refine aIf_split (fun _ => ?_) (fun _ => ?_)) | (with_reducible refine aSel_split (fun _ => ?_) (fun _ => ?_)) | (with_reducible refine aGd_split (fun _ => ?_) (fun _ => ?_)) | (with_reducible refine aDraw_quiet (by kernel_rfl) ?_) | ((with_reducible apply callV); exact (hC)) | ((with_reducible apply callD); exact (hC))))
  · have e : (decide (3 ≤ x.op) && decide (x.op ≤ 8)) = false := by simpa using g
    rw [e] at hC
    rw [if_neg g]
    by_cases g9 : 9 ≤ x.op
    · have d1 : decide (9 ≤ x.op) = true := decide_eq_true g9
      rw [d1, Bool.true_and]
      (repeat' (first | simp (maxSteps := 5000000) (implicitDefEqProofs := false) only [ruA, ruB, aEv, aTake, aLoad, aField, aIndex, aLen, aBin, bin2, aUn, un1, aExtract, aConv, ASt.get, aget, ASt.put, aStore, aBox, aAppend, aBuildSlice, aMake, aBuild, aFill, oneParts, allC, aBinS, yv, aCells, oneC, oneCL, treeC, treeL, treeML, treeM_c, treeM_sl, treeM_rp, treeM_any, treeM_fn, treeM_bfn, aLit, aDst, aSrc, appTab, Value.cells, Value.oneCell', envOf, aResL, aOne, ↓reduceIte, reduceCtorEq, forall_const, Nat.reduceLT, Nat.reduceEqDiff, Nat.reduceAdd, Nat.reduceMul, Nat.reduceSub, Nat.reduceLeDiff, Nat.reduceBEq, eq_self, implies_true, ne_eq, dref, dref1, dref2, aExecS, aStoreB, aTakes, aTakeE, aElder, aFrom, aFresh, isLoad, aBuildSlice1, frzs, frz1, ownIds, AV.frz, AV.frzL, frzEnv, AV.shift, AV.shiftL, aFieldV, aSliceW, aSliceO, aSlice, aSliceR, aSliceS, aBd, aMax, frzAVs, frzAV, frzTab, AObj.frz, aMM, aNilS, aMay, aNil, tyA_36, tyS_36, tyF_36_1, tyF_34_0, tyA_3, tyS_3, tyF_36_2, tyK_3, tyF_36_0, d1] | (with_reducible refine aIf_split (fun _ => ?_) (fun _ => ?_)) | (with_reducible refine aSel_split (fun _ => ?_) (fun _ => ?_)) | (with_reducible refine aGd_split (fun _ => ?_) (fun _ => ?_)) | (with_reducible refine aDraw_quiet (by kernel_rfl) ?_) | ((with_reducible apply callV); exact (hC)) | ((with_reducible apply callD); exact (hC))))
    · have d1 : decide (9 ≤ x.op) = false := decide_eq_false g9
      rw [d1, Bool.false_and]
      (repeat' (first | simp (maxSteps := 5000000) (implicitDefEqProofs := false) only [ruA, ruB, aEv, aTake, aLoad, aField, aIndex, aLen, aBin, bin2, aUn, un1, aExtract, aConv, ASt.get, aget, ASt.put, aStore, aBox, aAppend, aBuildSlice, aMake, aBuild, aFill, oneParts, allC, aBinS, yv, aCells, oneC, oneCL, treeC, treeL, treeML, treeM_c, treeM_sl, treeM_rp, treeM_any, treeM_fn, treeM_bfn, aLit, aDst, aSrc, appTab, Value.cells, Value.oneCell', envOf, aResL, aOne, ↓reduceIte, reduceCtorEq, forall_const, Nat.reduceLT, Nat.reduceEqDiff, Nat.reduceAdd, Nat.reduceMul, Nat.reduceSub, Nat.reduceLeDiff, Nat.reduceBEq, eq_self, implies_true, ne_eq, dref, dref1, dref2, aExecS, aStoreB, aTakes, aTakeE, aElder, aFrom, aFresh, isLoad, aBuildSlice1, frzs, frz1, ownIds, AV.frz, AV.frzL, frzEnv, AV.shift, AV.shiftL, aFieldV, aSliceW, aSliceO, aSlice, aSliceR, aSliceS, aBd, aMax, frzAVs, frzAV, frzTab, AObj.frz, aMM, aNilS, aMay, aNil, tyA_36, tyS_36, tyF_36_1, tyF_34_0, tyA_3, tyS_3, tyF_36_2, tyK_3, tyF_36_0, d1] | (with_reducible refine aIf_split (fun _ => ?_) (fun _ => ?_)) | (with_reducible refine aSel_split (fun _ => ?_) (fun _ => ?_)) | (with_reducible refine aGd_split (fun _ => ?_) (fun _ => ?_)) | (with_reducible refine aDraw_quiet (by kernel_rfl) ?_) | ((with_reducible apply callV); exact (hC)) | ((with_reducible apply callD); exact (hC))))
set_option maxRecDepth 100000 in
set_option maxHeartbeats 8000000 in
theorem idle_A (l : List Inst) (hl : l.length ≤ 1000000) : ADet Tryz.prog 4 [sInsts l] (val (.bool (idleB l))) := by
  refine adet_of_code mixedT Tryz.func4 rfl (by decide) Tryz.ntmps4 Tryz.results4 rfl (val_ok _) ?_
  (repeat' (first | simp (maxSteps := 5000000) (implicitDefEqProofs := false) only [ruA, ruB, aEv, aTake, aLoad, aField, aIndex, aLen, aBin, bin2, aUn, un1, aExtract, aConv, ASt.get, aget, ASt.put, aStore, aBox, aAppend, aBuildSlice, aMake, aBuild, aFill, oneParts, allC, aBinS, yv, aCells, oneC, oneCL, treeC, treeL, treeML, treeM_c, treeM_sl, treeM_rp, treeM_any, treeM_fn, treeM_bfn, aLit, aDst, aSrc, appTab, Value.cells, Value.oneCell', envOf, aResL, aOne, ↓reduceIte, reduceCtorEq, forall_const, Nat.reduceLT, Nat.reduceEqDiff, Nat.reduceAdd, Nat.reduceMul, Nat.reduceSub, Nat.reduceLeDiff, Nat.reduceBEq, eq_self, implies_true, ne_eq, dref, dref1, dref2, aExecS, aStoreB, aTakes, aTakeE, aElder, aFrom, aFresh, isLoad, aBuildSlice1, frzs, frz1, ownIds, AV.frz, AV.frzL, frzEnv, AV.shift, AV.shiftL, aFieldV, aSliceW, aSliceO, aSlice, aSliceR, aSliceS, aBd, aMax, frzAVs, frzAV, frzTab, AObj.frz, aMM, aNilS, aMay, aNil, tyE_22, tyK_22, tyK_3, tyA_36, tyS_36, tyZ_36, tyF_36_0, tyA_3, tyS_3, List.length_map] | (with_reducible refine aIf_split (fun _ => ?_) (fun _ => ?_)) | (with_reducible refine aSel_split (fun _ => ?_) (fun _ => ?_)) | (with_reducible refine aGd_split (fun _ => ?_) (fun _ => ?_))))
  refine aLoop_of (fun st => ∃ k : Nat, k ≤ l.length ∧ (∀ j (h : j < l.length), j < k → namesB l[j] = false) ∧ st = ⟨35, [(0, sInsts l), (5, sInsts l), (6, eI (l.length : Int)), (7, eI (k : Int))], [], 0⟩) (fun st => l.length - slotN st 7) ⟨_, (weak_cut1 (by (first | ((simp only [envIn, tabIn, envLt, tabLt, AObj.lt, AV.lt, AV.ltL, ruW, ASt.get, aget, ASt.put, ↓reduceIte, reduceCtorEq, Nat.reduceLT, Nat.reduceEqDiff, Nat.reduceAdd, Nat.reduceLeDiff, eq_self, implies_true, List.length_map]) <;> (repeat' apply And.intro) <;> first | (rw [wrapK (by omega)]; done) | (simp; done) | omega) | fail))), 0, Nat.zero_le _, fun j _ h => by omega, rfl⟩ ?_
  rintro _ ⟨k, hk, hok, rfl⟩
  by_cases hlt : k < l.length
  · have hN := lnames_A l[k]
    have hok2 : namesB l[k] = false → ∀ j (h : j < l.length), j < k + 1 → namesB l[j] = false := fun h j hj hjk => by
      rcases Nat.lt_or_ge j k with h2 | h2
      · exact hok j hj h2
      · obtain rfl : j = k := by omega
        exact h
    have hno : namesB l[k] = true → idleB l = false := fun h => by
      unfold idleB
      rw [Bool.and_eq_false_iff]
      left
      rw [List.all_eq_false]
      exact ⟨l[k], List.getElem_mem hlt, by simp [h]⟩
    generalize hx : l[k] = x at *
    cases hb : namesB x with
    | true =>
      rw [hb] at hN
      rw [hno hb]
      (repeat' (first | simp (maxSteps := 5000000) (implicitDefEqProofs := false) only [ruA, ruB, aEv, aTake, aLoad, aField, aIndex, aLen, aBin, bin2, aUn, un1, aExtract, aConv, ASt.get, aget, ASt.put, aStore, aBox, aAppend, aBuildSlice, aMake, aBuild, aFill, oneParts, allC, aBinS, yv, aCells, oneC, oneCL, treeC, treeL, treeML, treeM_c, treeM_sl, treeM_rp, treeM_any, treeM_fn, treeM_bfn, aLit, aDst, aSrc, appTab, Value.cells, Value.oneCell', envOf, aResL, aOne, ↓reduceIte, reduceCtorEq, forall_const, Nat.reduceLT, Nat.reduceEqDiff, Nat.reduceAdd, Nat.reduceMul, Nat.reduceSub, Nat.reduceLeDiff, Nat.reduceBEq, eq_self, implies_true, ne_eq, dref, dref1, dref2, aExecS, aStoreB, aTakes, aTakeE, aElder, aFrom, aFresh, isLoad, aBuildSlice1, frzs, frz1, ownIds, AV.frz, AV.frzL, frzEnv, AV.shift, AV.shiftL, aFieldV, aSliceW, aSliceO, aSlice, aSliceR, aSliceS, aBd, aMax, frzAVs, frzAV, frzTab, AObj.frz, aMM, aNilS, aMay, aNil, tyE_22, tyK_22, tyK_3, tyA_36, tyS_36, tyZ_36, tyF_36_0, tyA_3, tyS_3, row_at, hlt, hx, List.length_map] | (with_reducible refine aIf_split (fun _ => ?_) (fun _ => ?_)) | (with_reducible refine aSel_split (fun _ => ?_) (fun _ => ?_)) | (with_reducible refine aGd_split (fun _ => ?_) (fun _ => ?_)) | (with_reducible refine aDraw_quiet (by kernel_rfl) ?_) | ((with_reducible apply callV); exact (hN)) | ((with_reducible apply callD); exact (hN))))
    | false =>
      rw [hb] at hN
      (repeat' (first | simp (maxSteps := 5000000) (implicitDefEqProofs := false) only [ruA, ruB, aEv, aTake, aLoad, aField, aIndex, aLen, aBin, bin2, aUn, un1, aExtract, aConv, ASt.get, aget, ASt.put, aStore, aBox, aAppend, aBuildSlice, aMake, aBuild, aFill, oneParts, allC, aBinS, yv, aCells, oneC, oneCL, treeC, treeL, treeML, treeM_c, treeM_sl, treeM_rp, treeM_any, treeM_fn, treeM_bfn, aLit, aDst, aSrc, appTab, Value.cells, Value.oneCell', envOf, aResL, aOne, ↓reduceIte, reduceCtorEq, forall_const, Nat.reduceLT, Nat.reduceEqDiff, Nat.reduceAdd, Nat.reduceMul, Nat.reduceSub, Nat.reduceLeDiff, Nat.reduceBEq, eq_self, implies_true, ne_eq, dref, dref1, dref2, aExecS, aStoreB, aTakes, aTakeE, aElder, aFrom, aFresh, isLoad, aBuildSlice1, frzs, frz1, ownIds, AV.frz, AV.frzL, frzEnv, AV.shift, AV.shiftL, aFieldV, aSliceW, aSliceO, aSlice, aSliceR, aSliceS, aBd, aMax, frzAVs, frzAV, frzTab, AObj.frz, aMM, aNilS, aMay, aNil, tyE_22, tyK_22, tyK_3, tyA_36, tyS_36, tyZ_36, tyF_36_0, tyA_3, tyS_3, row_at, hlt, hx, List.length_map] | (with_reducible refine aIf_split (fun _ => ?_) (fun _ => ?_)) | (with_reducible refine aSel_split (fun _ => ?_) (fun _ => ?_)) | (with_reducible refine aGd_split (fun _ => ?_) (fun _ => ?_)) | (with_reducible refine aDraw_quiet (by kernel_rfl) ?_) | ((with_reducible apply callV); exact (hN)) | ((with_reducible apply callD); exact (hN))))
      all_goals exact roundI (weak_cut1 (by (first | ((simp only [envIn, tabIn, envLt, tabLt, AObj.lt, AV.lt, AV.ltL, ruW, ASt.get, aget, ASt.put, ↓reduceIte, reduceCtorEq, Nat.reduceLT, Nat.reduceEqDiff, Nat.reduceAdd, Nat.reduceLeDiff, eq_self, implies_true, List.length_map]) <;> (repeat' apply And.intro) <;> first | (rw [wrapK (by omega)]; done) | (simp; done) | omega) | fail))) ⟨k + 1, by omega, hok2 hb, rfl⟩ (by simp only [slotN, ruW, ASt.get, aget, ASt.put, ↓reduceIte, reduceCtorEq, Nat.reduceLT, Nat.reduceEqDiff, Nat.reduceAdd, Nat.reduceLeDiff, eq_self, implies_true]; omega)
  · obtain rfl : k = l.length := by omega
    have hall : l.all (fun x => !namesB x) = true := by
      rw [List.all_eq_true]
      intro x hx
      obtain ⟨j, hj, rfl⟩ := List.getElem_of_mem hx
      simp [hok j hj hj]
    unfold idleB
    rw [hall, Bool.true_and]
    by_cases g1 : 1 < l.length
    · have d1 : decide (1 < l.length) = true := decide_eq_true g1
      have d1' : decide ((1 : Int) < (l.length : Int)) = true := decide_eq_true (by omega)
      rw [d1, Bool.true_or]
      (repeat' (first | simp (maxSteps := 5000000) (implicitDefEqProofs := false) only [ruA, ruB, aEv, aTake, aLoad, aField, aIndex, aLen, aBin, bin2, aUn, un1, aExtract, aConv, ASt.get, aget, ASt.put, aStore, aBox, aAppend, aBuildSlice, aMake, aBuild, aFill, oneParts, allC, aBinS, yv, aCells, oneC, oneCL, treeC, treeL, treeML, treeM_c, treeM_sl, treeM_rp, treeM_any, treeM_fn, treeM_bfn, aLit, aDst, aSrc, appTab, Value.cells, Value.oneCell', envOf, aResL, aOne, ↓reduceIte, reduceCtorEq, forall_const, Nat.reduceLT, Nat.reduceEqDiff, Nat.reduceAdd, Nat.reduceMul, Nat.reduceSub, Nat.reduceLeDiff, Nat.reduceBEq, eq_self, implies_true, ne_eq, dref, dref1, dref2, aExecS, aStoreB, aTakes, aTakeE, aElder, aFrom, aFresh, isLoad, aBuildSlice1, frzs, frz1, ownIds, AV.frz, AV.frzL, frzEnv, AV.shift, AV.shiftL, aFieldV, aSliceW, aSliceO, aSlice, aSliceR, aSliceS, aBd, aMax, frzAVs, frzAV, frzTab, AObj.frz, aMM, aNilS, aMay, aNil, tyE_22, tyK_22, tyK_3, tyA_36, tyS_36, tyZ_36, tyF_36_0, tyA_3, tyS_3, hlt, d1, d1', List.length_map] | (with_reducible refine aIf_split (fun _ => ?_) (fun _ => ?_)) | (with_reducible refine aSel_split (fun _ => ?_) (fun _ => ?_)) | (with_reducible refine aGd_split (fun _ => ?_) (fun _ => ?_)) | (with_reducible refine aDraw_quiet (by kernel_rfl) ?_)))
    · have d1 : decide (1 < l.length) = false := decide_eq_false g1
      have d1' : decide ((1 : Int) < (l.length : Int)) = false := decide_eq_false (by omega)
      rw [d1, Bool.false_or]
      match l, g1, hl with
      | [], _, _ => 
        have q : (((0 : Nat) : Int) == 1) = false := rfl
        have z0 : decide ((1 : Int) < ((0 : Nat) : Int)) = false := rfl
        (repeat' (first | simp (maxSteps := 5000000) (implicitDefEqProofs := false) only [ruA, ruB, aEv, aTake, aLoad, aField, aIndex, aLen, aBin, bin2, aUn, un1, aExtract, aConv, ASt.get, aget, ASt.put, aStore, aBox, aAppend, aBuildSlice, aMake, aBuild, aFill, oneParts, allC, aBinS, yv, aCells, oneC, oneCL, treeC, treeL, treeML, treeM_c, treeM_sl, treeM_rp, treeM_any, treeM_fn, treeM_bfn, aLit, aDst, aSrc, appTab, Value.cells, Value.oneCell', envOf, aResL, aOne, ↓reduceIte, reduceCtorEq, forall_const, Nat.reduceLT, Nat.reduceEqDiff, Nat.reduceAdd, Nat.reduceMul, Nat.reduceSub, Nat.reduceLeDiff, Nat.reduceBEq, eq_self, implies_true, ne_eq, dref, dref1, dref2, aExecS, aStoreB, aTakes, aTakeE, aElder, aFrom, aFresh, isLoad, aBuildSlice1, frzs, frz1, ownIds, AV.frz, AV.frzL, frzEnv, AV.shift, AV.shiftL, aFieldV, aSliceW, aSliceO, aSlice, aSliceR, aSliceS, aBd, aMax, frzAVs, frzAV, frzTab, AObj.frz, aMM, aNilS, aMay, aNil, tyE_22, tyK_22, tyK_3, tyA_36, tyS_36, tyZ_36, tyF_36_0, tyA_3, tyS_3, q, z0, List.length_nil, List.map_nil] | (with_reducible refine aIf_split (fun _ => ?_) (fun _ => ?_)) | (with_reducible refine aSel_split (fun _ => ?_) (fun _ => ?_)) | (with_reducible refine aGd_split (fun _ => ?_) (fun _ => ?_)) | (with_reducible refine aDraw_quiet (by kernel_rfl) ?_)))
        all_goals rfl
      | [x], _, _ =>
        have hC := lcompares_A x
        have q : (((1 : Nat) : Int) == 1) = true := rfl
        have e0 : ([eInst x] : List (List AV))[Int.toNat 0]?.getD [] = eInst x := rfl
        have b0 : (0 : Int) < ((1 : Nat) : Int) := by decide
        have z1 : decide ((1 : Int) < ((1 : Nat) : Int)) = false := rfl
        cases hb : (decide (3 ≤ x.op) && decide (x.op ≤ 8)) with
        | true =>
          rw [hb] at hC
          (repeat' (first | simp (maxSteps := 5000000) (implicitDefEqProofs := false) only [ruA, ruB, aEv, aTake, aLoad, aField, aIndex, aLen, aBin, bin2, aUn, un1, aExtract, aConv, ASt.get, aget, ASt.put, aStore, aBox, aAppend, aBuildSlice, aMake, aBuild, aFill, oneParts, allC, aBinS, yv, aCells, oneC, oneCL, treeC, treeL, treeML, treeM_c, treeM_sl, treeM_rp, treeM_any, treeM_fn, treeM_bfn, aLit, aDst, aSrc, appTab, Value.cells, Value.oneCell', envOf, aResL, aOne, ↓reduceIte, reduceCtorEq, forall_const, Nat.reduceLT, Nat.reduceEqDiff, Nat.reduceAdd, Nat.reduceMul, Nat.reduceSub, Nat.reduceLeDiff, Nat.reduceBEq, eq_self, implies_true, ne_eq, dref, dref1, dref2, aExecS, aStoreB, aTakes, aTakeE, aElder, aFrom, aFresh, isLoad, aBuildSlice1, frzs, frz1, ownIds, AV.frz, AV.frzL, frzEnv, AV.shift, AV.shiftL, aFieldV, aSliceW, aSliceO, aSlice, aSliceR, aSliceS, aBd, aMax, frzAVs, frzAV, frzTab, AObj.frz, aMM, aNilS, aMay, aNil, tyE_22, tyK_22, tyK_3, tyA_36, tyS_36, tyZ_36, tyF_36_0, tyA_3, tyS_3, q, z1, e0, b0, List.length_nil, List.length_cons, List.map_cons, List.map_nil] | (with_reducible refine aIf_split (fun _ => ?_) (fun _ => ?_)) | (with_reducible refine aSel_split (fun _ => ?_) (fun _ => ?_)) | (with_reducible refine aGd_split (fun _ => ?_) (fun _ => ?_)) | (with_reducible refine aDraw_quiet (by kernel_rfl) ?_) | ((with_reducible apply callV); exact (hC)) | ((with_reducible apply callD); exact (hC))))
          all_goals simp [hb]
        | false =>
          rw [hb] at hC
          (repeat' (first | simp (maxSteps := 5000000) (implicitDefEqProofs := false) only [ruA, ruB, aEv, aTake, aLoad, aField, aIndex, aLen, aBin, bin2, aUn, un1, aExtract, aConv, ASt.get, aget, ASt.put, aStore, aBox, aAppend, aBuildSlice, aMake, aBuild, aFill, oneParts, allC, aBinS, yv, aCells, oneC, oneCL, treeC, treeL, treeML, treeM_c, treeM_sl, treeM_rp, treeM_any, treeM_fn, treeM_bfn, aLit, aDst, aSrc, appTab, Value.cells, Value.oneCell', envOf, aResL, aOne, ↓reduceIte, reduceCtorEq, forall_const, Nat.reduceLT, Nat.reduceEqDiff, Nat.reduceAdd, Nat.reduceMul, Nat.reduceSub, Nat.reduceLeDiff, Nat.reduceBEq, eq_self, implies_true, ne_eq, dref, dref1, dref2, aExecS, aStoreB, aTakes, aTakeE, aElder, aFrom, aFresh, isLoad, aBuildSlice1, frzs, frz1, ownIds, AV.frz, AV.frzL, frzEnv, AV.shift, AV.shiftL, aFieldV, aSliceW, aSliceO, aSlice, aSliceR, aSliceS, aBd, aMax, frzAVs, frzAV, frzTab, AObj.frz, aMM, aNilS, aMay, aNil, tyE_22, tyK_22, tyK_3, tyA_36, tyS_36, tyZ_36, tyF_36_0, tyA_3, tyS_3, q, z1, e0, b0, List.length_nil, List.length_cons, List.map_cons, List.map_nil] | (with_reducible refine aIf_split (fun _ => ?_) (fun _ => ?_)) | (with_reducible refine aSel_split (fun _ => ?_) (fun _ => ?_)) | (with_reducible refine aGd_split (fun _ => ?_) (fun _ => ?_)) | (with_reducible refine aDraw_quiet (by kernel_rfl) ?_) | ((with_reducible apply callV); exact (hC)) | ((with_reducible apply callD); exact (hC))))
          all_goals simp [hb]
      | _ :: _ :: _, h, _ => exact (h (by simp)).elim
end
section
open Go.RowKit

theorem arity_cases (op : Int) : arity op = -1 ∨ arity op = 0 ∨ arity op = 1 ∨ arity op = 2 := by
  unfold arity
  split
  · exact .inr (.inl rfl)
  · split
    · exact .inr (.inr (.inl rfl))
    · split
      · exact .inr (.inr (.inr rfl))
      · exact .inl rfl
theorem pushN_iff {d : Nat} {op : Int} {d' : Nat} : pushN d op = some d' ↔ 0 ≤ arity op ∧ arity op ≤ d ∧ (d' : Int) = d + 1 - arity op := by
  unfold pushN
  rcases arity_cases op with h | h | h | h <;> simp only [h]
  · simp
  · simp
    omega
  · by_cases h1 : 1 ≤ d
    · simp [h1]
      omega
    · simp [h1]
      omega
  · by_cases h1 : 2 ≤ d
    · simp [h1]
      omega
    · simp [h1]
      omega
theorem rn_app (a b : List Int) : ∀ d, rowN (a ++ b) d = (rowN a d).bind (rowN b) := by
  induction a with
  | nil => intro d; rfl
  | cons x a ih => intro d; rw [List.cons_append, rowN, rowN]; cases pushN d x <;> simp [ih]
theorem rn_succ (ops : List Int) {i : Nat} (h : i < ops.length) : rowN (ops.take (i + 1)) 0 = (rowN (ops.take i) 0).bind fun d => pushN d ops[i] := by
  rw [List.take_add_one, List.getElem?_eq_getElem h, rn_app]
  congr 1
  funext d
  simp [rowN]
  cases pushN d ops[i] <;> rfl
theorem rn_some {ops : List Int} {i d' : Nat} (h : i < ops.length) (hr : rowN (ops.take (i + 1)) 0 = some d') : ∃ d, rowN (ops.take i) 0 = some d ∧ 0 ≤ arity ops[i] ∧ arity ops[i] ≤ d ∧ (d' : Int) = d + 1 - arity ops[i] := by
  rw [rn_succ ops h] at hr
  cases hd : rowN (ops.take i) 0 with
  | none => simp [hd] at hr
  | some d =>
    simp [hd] at hr
    exact ⟨d, rfl, pushN_iff.1 hr⟩
/-- where the part begins: i items are left, so many are wanted -/
def begI (ops : List Int) : Nat → Int → Int
  | 0, _ => -1
  | i + 1, want => if arity (ops.getD i 0) < 0 then -1 else if want + (arity (ops.getD i 0) - 1) = 0 then (i : Int) else begI ops i (want + (arity (ops.getD i 0) - 1))
theorem getD_of {ops : List Int} {i : Nat} (h : i < ops.length) : ops.getD i 0 = ops[i] := by simp [h]
theorem beg_gen {ops : List Int} {d e : Nat} (hd : 1 ≤ d) : ∀ (i : Nat) (want : Int) (di : Nat), i ≤ ops.length → rowN (ops.take i) 0 = some di → (di : Int) = d - 1 + want → 1 ≤ want → (∀ j, i ≤ j → j ≤ e → ∃ dj, rowN (ops.take j) 0 = some dj ∧ d ≤ dj) →
    ∃ b : Nat, b < i ∧ begI ops i want = b ∧ rowN (ops.take b) 0 = some (d - 1) ∧ ∀ j, b < j → j ≤ e → ∃ dj, rowN (ops.take j) 0 = some dj ∧ d ≤ dj
  | 0, want, di, _, hr, hdi, hw, _ => by
    simp [rowN] at hr
    omega
  | i + 1, want, di, hi, hr, hdi, hw, hj => by
    obtain ⟨d0, h0, h1, h2, h3⟩ := rn_some (by omega) hr
    rw [begI, getD_of (by omega : i < ops.length), if_neg (by omega)]
    by_cases hz : want + (arity ops[i] - 1) = 0
    · rw [if_pos hz]
      refine ⟨i, by omega, rfl, by rw [h0]; congr 1; omega, fun j h4 h5 => hj j (by omega) h5⟩
    · rw [if_neg hz]
      obtain ⟨b, h4, h5, h6, h7⟩ := beg_gen (e := e) hd i (want + (arity ops[i] - 1)) d0 (by omega) h0 (by omega) (by omega) fun j h4 h5 => by
        rcases Nat.lt_or_ge i j with h6 | h6
        · exact hj j (by omega) h5
        · obtain rfl : i = j := by omega
          exact ⟨d0, h0, by omega⟩
      exact ⟨b, by omega, h5, h6, h7⟩
theorem rn_pos {ops : List Int} {i d : Nat} (h : i < ops.length) (hr : rowN (ops.take (i + 1)) 0 = some d) : 1 ≤ d := by
  obtain ⟨d0, _, h1, h2, h3⟩ := rn_some h hr
  omega
theorem beg_at {ops : List Int} {e d : Nat} (he : e < ops.length) (hr : rowN (ops.take (e + 1)) 0 = some d) :
    ∃ b : Nat, b ≤ e ∧ begI ops (e + 1) 1 = b ∧ rowN (ops.take b) 0 = some (d - 1) ∧ ∀ j, b < j → j ≤ e + 1 → ∃ dj, rowN (ops.take j) 0 = some dj ∧ d ≤ dj := by
  have hd := rn_pos he hr
  obtain ⟨b, h1, h2⟩ := beg_gen (e := e + 1) hd (e + 1) 1 d (by omega) hr (by omega) (by omega) fun j h1 h2 => by
    obtain rfl : j = e + 1 := by omega
    exact ⟨d, hr, Nat.le_refl _⟩
  exact ⟨b, by omega, h2⟩
theorem beg_back (ops : List Int) : ∀ (i : Nat) (want : Int), i ≤ ops.length → 1 ≤ want → begI ops i want = 0 → rowN (ops.take i) 0 = some want.toNat
  | 0, want, _, _, h => by simp [begI] at h
  | i + 1, want, hi, hw, h => by
    have hlt : i < ops.length := by omega
    rw [begI, getD_of hlt] at h
    split at h
    · omega
    · rename_i h1
      rw [rn_succ ops hlt]
      split at h
      · rename_i h2
        obtain rfl : i = 0 := by omega
        have h3 : arity ops[0] = 0 ∧ want = 1 := by
          rcases arity_cases ops[0] with h | h | h | h <;> omega
        rw [h3.2]
        simp only [List.take_zero, rowN, Option.bind_some]
        rw [pushN_iff]
        omega
      · rename_i h2
        rw [beg_back ops i _ (by omega) (by omega) h, Option.bind_some, pushN_iff]
        omega
theorem beg_zero {ops : List Int} (h0 : 0 < ops.length) : begI ops ops.length 1 = 0 ↔ rowN ops 0 = some 1 := by
  constructor
  · intro h
    have := beg_back ops ops.length 1 (Nat.le_refl _) (by omega) h
    rwa [List.take_length] at this
  · intro h
    have e1 : ops.length - 1 + 1 = ops.length := by omega
    obtain ⟨b, h1, h2, h3, h4⟩ := beg_at (ops := ops) (e := ops.length - 1) (d := 1) (by omega) (by rw [e1, List.take_length]; exact h)
    rw [e1] at h2
    rw [h2]
    cases b with
    | zero => rfl
    | succ b =>
      have := rn_pos (by omega) h3
      omega

/-! ### the row of truths -/
section
variable {cm : Inst → Option Int} {o d : Int}
theorem rg_app (a b : List Inst) : ∀ r, runG cm o d (a ++ b) r = (runG cm o d a r).bind (runG cm o d b) := by
  induction a with
  | nil => intro r; rfl
  | cons x a ih => intro r; rw [List.cons_append, runG, runG]; cases stepG cm o d x r <;> simp [ih]
theorem rg_succ (l : List Inst) {i : Nat} (h : i < l.length) : runG cm o d (l.take (i + 1)) [] = (runG cm o d (l.take i) []).bind (stepG cm o d l[i]) := by
  rw [List.take_add_one, List.getElem?_eq_getElem h, rg_app]
  congr 1
  funext r
  simp [runG]
  cases stepG cm o d l[i] r <;> rfl
theorem stepG_some {x : Inst} {r r' : List Bool} (h : stepG cm o d x r = some r') : ∃ k : Nat, arity x.op = k ∧ k ≤ r.length ∧ ∃ v, r' = v :: r.drop k := by
  unfold stepG at h
  split at h
  · rename_i h1
    cases h
    exact ⟨0, by unfold arity; rw [if_pos (by omega)]; rfl, by omega, _, rfl⟩
  · split at h
    · rename_i h1
      split at h
      · cases h
        exact ⟨0, by unfold arity; rw [if_pos (by omega)]; rfl, by omega, _, rfl⟩
      · cases h
    · split at h
      · rename_i h1
        cases h
        exact ⟨0, by unfold arity; rw [if_pos (by omega)]; rfl, by omega, _, rfl⟩
      · split at h
        · rename_i h1
          cases h
          exact ⟨0, by unfold arity; rw [if_pos (by omega)]; rfl, by omega, _, rfl⟩
        · split at h
          · rename_i h1
            split at h
            · cases h
              exact ⟨1, by unfold arity; rw [if_neg (by omega), if_pos (by omega)]; rfl, by simp, _, rfl⟩
            · cases h
          · split at h
            · rename_i h1
              split at h
              · cases h
                exact ⟨2, by unfold arity; rw [if_neg (by omega), if_neg (by omega), if_pos (by omega)]; rfl, by simp, _, rfl⟩
              · cases h
            · cases h
theorem rg_some {l : List Inst} {i : Nat} {r' : List Bool} (h : i < l.length) (hr : runG cm o d (l.take (i + 1)) [] = some r') : ∃ r, runG cm o d (l.take i) [] = some r ∧ stepG cm o d l[i] r = some r' := by
  rw [rg_succ l h] at hr
  cases hd : runG cm o d (l.take i) [] with
  | none => simp [hd] at hr
  | some r =>
    simp [hd] at hr
    exact ⟨r, rfl, hr⟩
theorem rg_row {l : List Inst} : ∀ {i : Nat} {r : List Bool}, i ≤ l.length → runG cm o d (l.take i) [] = some r → rowN ((l.map Inst.op).take i) 0 = some r.length
  | 0, r, _, h => by
    simp [runG] at h
    subst h
    simp [rowN]
  | i + 1, r, hi, h => by
    obtain ⟨r0, h1, h2⟩ := rg_some (by omega) h
    have h3 := rg_row (by omega) h1
    obtain ⟨k, h4, h5, v, rfl⟩ := stepG_some h2
    rw [rn_succ _ (by simp; omega), h3, Option.bind_some, pushN_iff]
    simp [h4]
    omega
theorem rg_begin {l : List Inst} {e : Nat} {v : Bool} {r : List Bool} (he : e < l.length) (h : runG cm o d (l.take (e + 1)) [] = some (v :: r)) :
    ∃ b : Nat, b ≤ e ∧ begI (l.map Inst.op) (e + 1) 1 = b ∧ runG cm o d (l.take b) [] = some r := by
  have hrow := rg_row (by omega) h
  obtain ⟨b, h1, h2, h3, h4⟩ := beg_at (by simpa using he) hrow
  refine ⟨b, h1, h2, ?_⟩
  have down : ∀ k j, j + k = e + 1 → ∃ q, runG cm o d (l.take j) [] = some q := by
    intro k
    induction k with
    | zero =>
      intro j hj
      obtain rfl : j = e + 1 := by omega
      exact ⟨_, h⟩
    | succ k ih =>
      intro j hj
      obtain ⟨q, hq⟩ := ih (j + 1) (by omega)
      obtain ⟨q0, hq0, _⟩ := rg_some (by omega) hq
      exact ⟨q0, hq0⟩
  obtain ⟨q, hq⟩ := down (e + 1 - b) b (by omega)
  have hql := rg_row (by omega) hq
  rw [h3] at hql
  have hql : r.length = q.length := by simpa using hql
  have up : ∀ k, b + k ≤ e + 1 → ∃ t, runG cm o d (l.take (b + k)) [] = some (t ++ q) := by
    intro k
    induction k with
    | zero => exact fun _ => ⟨[], hq⟩
    | succ k ih =>
      intro hk
      obtain ⟨t, ht⟩ := ih (by omega)
      obtain ⟨r1, hr1⟩ := down (e + 1 - (b + k + 1)) (b + k + 1) (by omega)
      obtain ⟨r0, h5, h6⟩ := rg_some (by omega) hr1
      rw [ht] at h5
      cases h5
      obtain ⟨c, h7, h8, v', rfl⟩ := stepG_some h6
      obtain ⟨dj, h9, h10⟩ := h4 (b + k + 1) (by omega) (by omega)
      have h11 := rg_row (by omega) hr1
      rw [h9] at h11
      have h11 : dj = (t ++ q).length - c + 1 := by simpa using h11
      rw [List.length_append] at h11 h8
      simp only [List.length_cons] at h10
      refine ⟨v' :: t.drop c, ?_⟩
      rw [show b + (k + 1) = b + k + 1 by omega, hr1, List.drop_append_of_le_length (by omega)]
      rfl
  obtain ⟨t, ht⟩ := up (e + 1 - b) (by omega)
  rw [show b + (e + 1 - b) = e + 1 by omega, h] at ht
  have ht := Option.some.inj ht
  have htl : t.length = 1 := by
    have := congrArg List.length ht
    simp at this
    omega
  obtain ⟨v', rfl⟩ : ∃ v', t = [v'] := by
    match t, htl with
    | [v'], _ => exact ⟨v', rfl⟩
  rw [hq]
  simp at ht
  rw [ht.2]
end
/-- an instruction that may be asked -/
def askOk (vals : List Int) (attrs : Bool) (x : Inst) : Bool :=
  !(decide (18 < x.op) || (decide (10 < x.op) && decide (x.op < 15)) || (attrs && decide (3 ≤ x.op) && decide (x.op ≤ 8) && (!(decide (-1 ≤ x.la) && decide (x.la < vals.length)) || !(decide (-1 ≤ x.ra) && decide (x.ra < vals.length)))))
theorem valO_iff (vals : List Int) (a n : Int) : (valO vals a n).isSome = (decide (-1 ≤ a) && decide (a < vals.length)) := by
  unfold valO
  by_cases h1 : a = -1
  · subst h1
    simp
    omega
  · rw [if_neg h1]
    by_cases h2 : a < 0
    · rw [if_pos h2]
      simp
      omega
    · rw [if_neg h2]
      rw [Bool.eq_iff_iff]
      simp
      omega
theorem cmS_some (vals : List Int) (x : Inst) : (cmS vals x).isSome = ((decide (-1 ≤ x.la) && decide (x.la < vals.length)) && (decide (-1 ≤ x.ra) && decide (x.ra < vals.length))) := by
  rw [← valO_iff vals x.la x.ln, ← valO_iff vals x.ra x.rn]
  unfold cmS
  cases valO vals x.la x.ln <;> cases valO vals x.ra x.rn <;> rfl
theorem step_ok {s : St} {x : Inst} {r : List Bool} (h : askOk s.vals true x = true) (h0 : 0 ≤ arity x.op) (h1 : arity x.op ≤ r.length) : ∃ r', stepG (cmS s.vals) s.opn s.don x r = some r' := by
  have hc := cmS_some s.vals x
  unfold askOk at h
  simp only [Bool.not_eq_true', Bool.or_eq_false_iff, Bool.and_eq_false_iff, decide_eq_false_iff_not, Bool.true_and, Bool.not_eq_false'] at h
  unfold stepG
  split
  · exact ⟨_, rfl⟩
  · split
    · rename_i h2 h3
      have : (cmS s.vals x).isSome = true := by
        rw [hc, Bool.and_eq_true]
        rcases h.2 with h4 | h4
        · rcases h4 with h4 | h4 <;> simp at h4 <;> omega
        · exact h4
      obtain ⟨c, hc⟩ := Option.isSome_iff_exists.1 this
      rw [hc]
      exact ⟨_, rfl⟩
    · split
      · exact ⟨_, rfl⟩
      · split
        · exact ⟨_, rfl⟩
        · split
          · rename_i h6
            have : arity x.op = 1 := by unfold arity; rw [if_neg (by omega), if_pos (by omega)]
            cases r with
            | nil => simp at h1; omega
            | cons a r => exact ⟨_, rfl⟩
          · split
            · rename_i h6
              have : arity x.op = 2 := by unfold arity; rw [if_neg (by omega), if_neg (by omega), if_pos (by omega)]
              match r with
              | [] => simp at h1; omega
              | [a] => simp at h1; omega
              | b :: a :: r => exact ⟨_, rfl⟩
            · rename_i h2 h3 h4 h5 h6 h7
              exfalso
              have h8 := h.1
              unfold arity at h0
              split at h0
              · rename_i h9
                rcases h8 with ⟨h10, h11⟩
                rcases h11 with h11 | h11 <;> omega
              · split at h0
                · omega
                · split at h0 <;> omega
theorem run_ok {s : St} {l : List Inst} (hl : ∀ x ∈ l, askOk s.vals true x = true) : ∀ (i : Nat) (d : Nat), i ≤ l.length → rowN ((l.map Inst.op).take i) 0 = some d → ∃ r, runG (cmS s.vals) s.opn s.don (l.take i) [] = some r ∧ r.length = d
  | 0, d, _, h => by
    simp [rowN] at h
    exact ⟨[], by simp [runG], h⟩
  | i + 1, d, hi, h => by
    have hlt : i < l.length := by omega
    obtain ⟨d0, h0, h1, h2, h3⟩ := rn_some (by simpa using hlt) h
    obtain ⟨r, h4, h5⟩ := run_ok hl i d0 (by omega) h0
    simp only [List.getElem_map] at h1 h2 h3
    obtain ⟨r', h6⟩ := step_ok (s := s) (r := r) (hl l[i] (List.getElem_mem hlt)) h1 (by omega)
    have h7 : runG (cmS s.vals) s.opn s.don (l.take (i + 1)) [] = some r' := by rw [rg_succ l hlt, h4, Option.bind_some, h6]
    have h8 := rg_row (by omega) h7
    rw [h] at h8
    exact ⟨r', h7, (Option.some.inj h8).symm⟩
theorem run_all_ok {s : St} {l : List Inst} {r : List Bool} (h : runG (cmS s.vals) s.opn s.don l [] = some r) : ∀ x ∈ l, askOk s.vals true x = true := by
  intro x hx
  obtain ⟨i, hi, rfl⟩ := List.getElem_of_mem hx
  have down : ∀ k j, j + k = l.length → ∃ q, runG (cmS s.vals) s.opn s.don (l.take j) [] = some q := by
    intro k
    induction k with
    | zero =>
      intro j hj
      obtain rfl : j = l.length := by omega
      exact ⟨r, by rw [List.take_length]; exact h⟩
    | succ k ih =>
      intro j hj
      obtain ⟨q, hq⟩ := ih (j + 1) (by omega)
      obtain ⟨q0, hq0, _⟩ := rg_some (by omega) hq
      exact ⟨q0, hq0⟩
  obtain ⟨q, hq⟩ := down (l.length - (i + 1)) (i + 1) (by omega)
  obtain ⟨q0, _, h2⟩ := rg_some hi hq
  have hc := cmS_some s.vals l[i]
  unfold askOk
  simp only [Bool.not_eq_true', Bool.or_eq_false_iff, Bool.and_eq_false_iff, decide_eq_false_iff_not, Bool.true_and, Bool.not_eq_false']
  unfold stepG at h2
  split at h2
  · rename_i h3
    exact ⟨⟨by omega, by omega⟩, .inl (by omega)⟩
  · split at h2
    · rename_i h3 h4
      split at h2
      · rename_i c hcm
        rw [hcm] at hc
        simp only [Option.isSome_some] at hc
        have hc := hc.symm
        rw [Bool.and_eq_true] at hc
        exact ⟨⟨by omega, by omega⟩, .inr hc⟩
      · cases h2
    · split at h2
      · exact ⟨⟨by omega, by omega⟩, .inl (by omega)⟩
      · split at h2
        · exact ⟨⟨by omega, by omega⟩, .inl (by omega)⟩
        · split at h2
          · exact ⟨⟨by omega, by omega⟩, .inl (by omega)⟩
          · split at h2
            · exact ⟨⟨by omega, by omega⟩, .inl (by omega)⟩
            · cases h2
theorem holdsO_some {l : List Inst} {s : St} (h1 : checkE (l.map Inst.op) = 0) (h2 : ∀ x ∈ l, askOk s.vals true x = true) : ∃ b, runG (cmS s.vals) s.opn s.don l [] = some [b] ∧ holdsO l s = some b := by
  have h3 : rowN (l.map Inst.op) 0 = some 1 := by
    unfold checkE at h1
    split at h1
    · cases h1
    · split at h1
      · cases h1
      · split at h1
        · assumption
        · cases h1
  obtain ⟨r, h4, h5⟩ := run_ok h2 l.length 1 (Nat.le_refl _) (by rw [show l.length = (l.map Inst.op).length by simp, List.take_length]; exact h3)
  rw [List.take_length] at h4
  match r, h5 with
  | [b], _ =>
    refine ⟨b, h4, ?_⟩
    unfold holdsO holdsG
    rw [if_neg (by simp [h1]), h4]
theorem holdsO_none {l : List Inst} {s : St} (h : ¬ (checkE (l.map Inst.op) = 0 ∧ ∀ x ∈ l, askOk s.vals true x = true)) : holdsO l s = none := by
  unfold holdsO holdsG
  split
  · rfl
  · rename_i h1
    cases hr : runG (cmS s.vals) s.opn s.don l [] with
    | none => rfl
    | some r => exact absurd ⟨by simpa using h1, run_all_ok hr⟩ h
end
section
open Go.RowKit
theorem two_no : ((2 : Int) = 0) = False := by simp
set_option maxRecDepth 100000 in
set_option maxHeartbeats 4000000 in
theorem hasR_A (s i : Int) (hs : ok64 s) : ADet Tryz.prog 18 [eI s, eI i] (val (.bool (hasB s i))) := by
  refine adet_of_code mixedT Tryz.func18 rfl (by decide) Tryz.ntmps18 Tryz.results18 rfl (val_ok _) ?_
  (repeat' (first | simp (maxSteps := 5000000) (implicitDefEqProofs := false) only [ruA, ruB, aEv, aTake, aLoad, aField, aIndex, aLen, aBin, bin2, aUn, un1, aExtract, aConv, ASt.get, aget, ASt.put, aStore, aBox, aAppend, aBuildSlice, aMake, aBuild, aFill, oneParts, allC, aBinS, yv, aCells, oneC, oneCL, treeC, treeL, treeML, treeM_c, treeM_sl, treeM_rp, treeM_any, treeM_fn, treeM_bfn, aLit, aDst, aSrc, appTab, Value.cells, Value.oneCell', envOf, aResL, aOne, ↓reduceIte, reduceCtorEq, forall_const, Nat.reduceLT, Nat.reduceEqDiff, Nat.reduceAdd, Nat.reduceMul, Nat.reduceSub, Nat.reduceLeDiff, Nat.reduceBEq, eq_self, implies_true, ne_eq, dref, dref1, dref2, aExecS, aStoreB, aTakes, aTakeE, aElder, aFrom, aFresh, isLoad, aBuildSlice1, frzs, frz1, ownIds, AV.frz, AV.frzL, frzEnv, AV.shift, AV.shiftL, aFieldV, aSliceW, aSliceO, aSlice, aSliceR, aSliceS, aBd, aMax, frzAVs, frzAV, frzTab, AObj.frz, aMM, aNilS, aMay, aNil, tyK_3] | (with_reducible refine aIf_split (fun _ => ?_) (fun _ => ?_)) | (with_reducible refine aSel_split (fun _ => ?_) (fun _ => ?_)) | (with_reducible refine aGd_split (fun _ => ?_) (fun _ => ?_))))
  · rename_i h
    simp at h
    simp [hasB]
    omega
  · rename_i h1 h2
    simp at h1 h2
    simp [hasB]
    omega
  · rename_i h1 h2
    simp at h1 h2
    obtain ⟨q, rfl⟩ : ∃ q : Nat, i = (q : Int) := ⟨i.toNat, by omega⟩
    have e0 : s / 2 ^ 0 = s := by simp
    refine aLoop_of (fun st => ∃ k : Nat, k ≤ q ∧ st = ⟨31, [(0, eI (s / 2 ^ k)), (1, eI (q : Int)), (5, eI (k : Int))], [], 0⟩) (fun st => q - slotN st 5) ⟨_, (weak_cut1 (by (first | ((simp only [envIn, tabIn, envLt, tabLt, AObj.lt, AV.lt, AV.ltL, ruW, ASt.get, aget, ASt.put, ↓reduceIte, reduceCtorEq, Nat.reduceLT, Nat.reduceEqDiff, Nat.reduceAdd, Nat.reduceLeDiff, eq_self, implies_true, e0]) <;> (repeat' apply And.intro) <;> first | (rw [wrapK (by omega)]; done) | (simp; done) | omega) | fail))), 0, Nat.zero_le _, rfl⟩ ?_
    rintro _ ⟨k, hk, rfl⟩
    have hp : (1 : Int) ≤ 2 ^ k := Int.pow_pos (by omega)
    have hd0 : -9223372036854775808 ≤ s / 2 ^ k := by
      refine Int.le_ediv_of_mul_le (by omega) ?_
      have := hs.1
      generalize (2 : Int) ^ k = p at *
      omega
    have hd1 : s / 2 ^ k ≤ 9223372036854775807 := by
      by_cases h : s < 0
      · have := Int.ediv_neg_of_neg_of_pos h (by omega : (0 : Int) < 2 ^ k)
        omega
      · exact Int.le_trans (Int.ediv_le_self _ (by omega)) hs.2
    have ed : s / 2 ^ (k + 1) = s / 2 ^ k / 2 := by
      rw [Int.pow_succ, Int.ediv_ediv_of_nonneg (Int.le_of_lt (Int.pow_pos (by omega)))]
    generalize hx : s / 2 ^ k = x at *
    by_cases hxn : x % 2 = 1 ∧ x < 0
    · have et : x.tmod 2 = -1 := by
        have h3 : x.tmod 2 = -((-x) % 2) := by
          rw [← Int.tmod_eq_emod_of_nonneg (by omega), Int.neg_tmod]
          omega
        omega
      have en : decide ((-1 : Int) < 0) = true := by decide
      have em : IntKind.i64.wrap (0 - (-1)) = 1 := by decide
      have ew : IntKind.i64.wrap (x - 1) = x - 1 := wrap_in (by omega) (by omega)
      have eq : (x - 1).tdiv 2 = x / 2 := by
        have h3 : (2 : Int) ∣ x - 1 := ⟨x / 2, by omega⟩
        rw [Int.tdiv_eq_ediv_of_dvd h3]
        omega
      by_cases hlt : k < q
      · (repeat' (first | simp (maxSteps := 5000000) (implicitDefEqProofs := false) only [ruA, ruB, aEv, aTake, aLoad, aField, aIndex, aLen, aBin, bin2, aUn, un1, aExtract, aConv, ASt.get, aget, ASt.put, aStore, aBox, aAppend, aBuildSlice, aMake, aBuild, aFill, oneParts, allC, aBinS, yv, aCells, oneC, oneCL, treeC, treeL, treeML, treeM_c, treeM_sl, treeM_rp, treeM_any, treeM_fn, treeM_bfn, aLit, aDst, aSrc, appTab, Value.cells, Value.oneCell', envOf, aResL, aOne, ↓reduceIte, reduceCtorEq, forall_const, Nat.reduceLT, Nat.reduceEqDiff, Nat.reduceAdd, Nat.reduceMul, Nat.reduceSub, Nat.reduceLeDiff, Nat.reduceBEq, eq_self, implies_true, ne_eq, dref, dref1, dref2, aExecS, aStoreB, aTakes, aTakeE, aElder, aFrom, aFresh, isLoad, aBuildSlice1, frzs, frz1, ownIds, AV.frz, AV.frzL, frzEnv, AV.shift, AV.shiftL, aFieldV, aSliceW, aSliceO, aSlice, aSliceR, aSliceS, aBd, aMax, frzAVs, frzAV, frzTab, AObj.frz, aMM, aNilS, aMay, aNil, tyK_3, hlt, two_no, et, en, em, ew, eq] | (with_reducible refine aIf_split (fun _ => ?_) (fun _ => ?_)) | (with_reducible refine aSel_split (fun _ => ?_) (fun _ => ?_)) | (with_reducible refine aGd_split (fun _ => ?_) (fun _ => ?_))))
        have ew2 : IntKind.i64.wrap (x / 2) = x / 2 := wrap_in (by omega) (by omega)
        exact roundI (weak_cut1 (by (first | ((simp only [envIn, tabIn, envLt, tabLt, AObj.lt, AV.lt, AV.ltL, ruW, ASt.get, aget, ASt.put, ↓reduceIte, reduceCtorEq, Nat.reduceLT, Nat.reduceEqDiff, Nat.reduceAdd, Nat.reduceLeDiff, eq_self, implies_true, ed, ew2]) <;> (repeat' apply And.intro) <;> first | (rw [wrapK (by omega)]; done) | (simp; done) | omega) | fail))) ⟨k + 1, by omega, rfl⟩ (by simp only [slotN, ruW, ASt.get, aget, ASt.put, ↓reduceIte, reduceCtorEq, Nat.reduceLT, Nat.reduceEqDiff, Nat.reduceAdd, Nat.reduceLeDiff, eq_self, implies_true]; omega)
      · obtain rfl : k = q := by omega
        (repeat' (first | simp (maxSteps := 5000000) (implicitDefEqProofs := false) only [ruA, ruB, aEv, aTake, aLoad, aField, aIndex, aLen, aBin, bin2, aUn, un1, aExtract, aConv, ASt.get, aget, ASt.put, aStore, aBox, aAppend, aBuildSlice, aMake, aBuild, aFill, oneParts, allC, aBinS, yv, aCells, oneC, oneCL, treeC, treeL, treeML, treeM_c, treeM_sl, treeM_rp, treeM_any, treeM_fn, treeM_bfn, aLit, aDst, aSrc, appTab, Value.cells, Value.oneCell', envOf, aResL, aOne, ↓reduceIte, reduceCtorEq, forall_const, Nat.reduceLT, Nat.reduceEqDiff, Nat.reduceAdd, Nat.reduceMul, Nat.reduceSub, Nat.reduceLeDiff, Nat.reduceBEq, eq_self, implies_true, ne_eq, dref, dref1, dref2, aExecS, aStoreB, aTakes, aTakeE, aElder, aFrom, aFresh, isLoad, aBuildSlice1, frzs, frz1, ownIds, AV.frz, AV.frzL, frzEnv, AV.shift, AV.shiftL, aFieldV, aSliceW, aSliceO, aSlice, aSliceR, aSliceS, aBd, aMax, frzAVs, frzAV, frzTab, AObj.frz, aMM, aNilS, aMay, aNil, tyK_3, hlt, two_no, et] | (with_reducible refine aIf_split (fun _ => ?_) (fun _ => ?_)) | (with_reducible refine aSel_split (fun _ => ?_) (fun _ => ?_)) | (with_reducible refine aGd_split (fun _ => ?_) (fun _ => ?_))))
        have hk31 : (k : Int) < 31 := by omega
        simp [hasB, hx, hk31, hxn.1]
    have et : x.tmod 2 = x % 2 := by
      by_cases h : x < 0
      · have h0 : x % 2 = 0 := by omega
        rw [h0]
        exact Int.tmod_eq_zero_of_dvd ⟨x / 2, by omega⟩
      · exact Int.tmod_eq_emod_of_nonneg (by omega)
    have en : decide (x % 2 < 0) = false := by simp; omega
    have ew : IntKind.i64.wrap (x - x % 2) = x - x % 2 := wrap_in (by omega) (by omega)
    have eq : (x - x % 2).tdiv 2 = x / 2 := by
      have h3 : (2 : Int) ∣ x - x % 2 := ⟨x / 2, by omega⟩
      rw [Int.tdiv_eq_ediv_of_dvd h3]
      omega
    by_cases hlt : k < q
    · (repeat' (first | simp (maxSteps := 5000000) (implicitDefEqProofs := false) only [ruA, ruB, aEv, aTake, aLoad, aField, aIndex, aLen, aBin, bin2, aUn, un1, aExtract, aConv, ASt.get, aget, ASt.put, aStore, aBox, aAppend, aBuildSlice, aMake, aBuild, aFill, oneParts, allC, aBinS, yv, aCells, oneC, oneCL, treeC, treeL, treeML, treeM_c, treeM_sl, treeM_rp, treeM_any, treeM_fn, treeM_bfn, aLit, aDst, aSrc, appTab, Value.cells, Value.oneCell', envOf, aResL, aOne, ↓reduceIte, reduceCtorEq, forall_const, Nat.reduceLT, Nat.reduceEqDiff, Nat.reduceAdd, Nat.reduceMul, Nat.reduceSub, Nat.reduceLeDiff, Nat.reduceBEq, eq_self, implies_true, ne_eq, dref, dref1, dref2, aExecS, aStoreB, aTakes, aTakeE, aElder, aFrom, aFresh, isLoad, aBuildSlice1, frzs, frz1, ownIds, AV.frz, AV.frzL, frzEnv, AV.shift, AV.shiftL, aFieldV, aSliceW, aSliceO, aSlice, aSliceR, aSliceS, aBd, aMax, frzAVs, frzAV, frzTab, AObj.frz, aMM, aNilS, aMay, aNil, tyK_3, hlt, two_no, et, en, ew, eq] | (with_reducible refine aIf_split (fun _ => ?_) (fun _ => ?_)) | (with_reducible refine aSel_split (fun _ => ?_) (fun _ => ?_)) | (with_reducible refine aGd_split (fun _ => ?_) (fun _ => ?_))))
      have ew2 : IntKind.i64.wrap (x / 2) = x / 2 := wrap_in (by omega) (by omega)
      exact roundI (weak_cut1 (by (first | ((simp only [envIn, tabIn, envLt, tabLt, AObj.lt, AV.lt, AV.ltL, ruW, ASt.get, aget, ASt.put, ↓reduceIte, reduceCtorEq, Nat.reduceLT, Nat.reduceEqDiff, Nat.reduceAdd, Nat.reduceLeDiff, eq_self, implies_true, ed, ew2]) <;> (repeat' apply And.intro) <;> first | (rw [wrapK (by omega)]; done) | (simp; done) | omega) | fail))) ⟨k + 1, by omega, rfl⟩ (by simp only [slotN, ruW, ASt.get, aget, ASt.put, ↓reduceIte, reduceCtorEq, Nat.reduceLT, Nat.reduceEqDiff, Nat.reduceAdd, Nat.reduceLeDiff, eq_self, implies_true]; omega)
    · obtain rfl : k = q := by omega
      (repeat' (first | simp (maxSteps := 5000000) (implicitDefEqProofs := false) only [ruA, ruB, aEv, aTake, aLoad, aField, aIndex, aLen, aBin, bin2, aUn, un1, aExtract, aConv, ASt.get, aget, ASt.put, aStore, aBox, aAppend, aBuildSlice, aMake, aBuild, aFill, oneParts, allC, aBinS, yv, aCells, oneC, oneCL, treeC, treeL, treeML, treeM_c, treeM_sl, treeM_rp, treeM_any, treeM_fn, treeM_bfn, aLit, aDst, aSrc, appTab, Value.cells, Value.oneCell', envOf, aResL, aOne, ↓reduceIte, reduceCtorEq, forall_const, Nat.reduceLT, Nat.reduceEqDiff, Nat.reduceAdd, Nat.reduceMul, Nat.reduceSub, Nat.reduceLeDiff, Nat.reduceBEq, eq_self, implies_true, ne_eq, dref, dref1, dref2, aExecS, aStoreB, aTakes, aTakeE, aElder, aFrom, aFresh, isLoad, aBuildSlice1, frzs, frz1, ownIds, AV.frz, AV.frzL, frzEnv, AV.shift, AV.shiftL, aFieldV, aSliceW, aSliceO, aSlice, aSliceR, aSliceS, aBd, aMax, frzAVs, frzAV, frzTab, AObj.frz, aMM, aNilS, aMay, aNil, tyK_3, hlt, two_no, et] | (with_reducible refine aIf_split (fun _ => ?_) (fun _ => ?_)) | (with_reducible refine aSel_split (fun _ => ?_) (fun _ => ?_)) | (with_reducible refine aGd_split (fun _ => ?_) (fun _ => ?_))))
      have hk31 : (k : Int) < 31 := by omega
      simp [hasB, hx, hk31]
      rcases Int.emod_two_eq x with h | h <;> simp [h]
end
section
open Go.RowKit
set_option maxRecDepth 100000 in
theorem arityR_A (n : Int) : ADet Tryz.prog 48 [eI n] (val (.int .i64 (arity n))) := by
  refine adet_of_code mixedT Tryz.func48 rfl (by decide) Tryz.ntmps48 Tryz.results48 rfl (val_ok _) ?_
  (repeat' (first | simp (maxSteps := 5000000) (implicitDefEqProofs := false) only [ruA, ruB, aEv, aTake, aLoad, aField, aIndex, aLen, aBin, bin2, aUn, un1, aExtract, aConv, ASt.get, aget, ASt.put, aStore, aBox, aAppend, aBuildSlice, aMake, aBuild, aFill, oneParts, allC, aBinS, yv, aCells, oneC, oneCL, treeC, treeL, treeML, treeM_c, treeM_sl, treeM_rp, treeM_any, treeM_fn, treeM_bfn, aLit, aDst, aSrc, appTab, Value.cells, Value.oneCell', envOf, aResL, aOne, ↓reduceIte, reduceCtorEq, forall_const, Nat.reduceLT, Nat.reduceEqDiff, Nat.reduceAdd, Nat.reduceMul, Nat.reduceSub, Nat.reduceLeDiff, Nat.reduceBEq, eq_self, implies_true, ne_eq, dref, dref1, dref2, aExecS, aStoreB, aTakes, aTakeE, aElder, aFrom, aFresh, isLoad, aBuildSlice1, frzs, frz1, ownIds, AV.frz, AV.frzL, frzEnv, AV.shift, AV.shiftL, aFieldV, aSliceW, aSliceO, aSlice, aSliceR, aSliceS, aBd, aMax, frzAVs, frzAV, frzTab, AObj.frz, aMM, aNilS, aMay, aNil, tyK_3] | (with_reducible refine aIf_split (fun _ => ?_) (fun _ => ?_)) | (with_reducible refine aSel_split (fun _ => ?_) (fun _ => ?_)) | (with_reducible refine aGd_split (fun _ => ?_) (fun _ => ?_))))
  all_goals (simp [arity] at *; (repeat' split) <;> omega)
abbrev eItm (n : Int) : List AV := [eI n, eS ByteArray.empty, eI 0, eS ByteArray.empty, eI 0, eS ByteArray.empty, eS ByteArray.empty, eI 0, eI 0]
abbrev sItms (l : List Int) : AV := .sl 9 (l.map eItm)
theorem beg_in (ops : List Int) : ∀ (i : Nat) (w : Int), -1 ≤ begI ops i w ∧ begI ops i w < i ∨ begI ops i w = -1
  | 0, w => .inr rfl
  | i + 1, w => by
    unfold begI
    split
    · exact .inr rfl
    · split
      · left
        omega
      · rcases beg_in ops i (w + (arity (ops.getD i 0) - 1)) with h | h
        · left
          omega
        · exact .inr h
set_option maxRecDepth 100000 in
set_option maxHeartbeats 2000000 in
theorem begR_A (l : List Int) (q : Nat) (hq : q ≤ l.length) (hl : l.length ≤ 1000000) : ADet Tryz.prog 47 [sItms l, eI ((q : Int) - 1)] (val (.int .i64 (begI l q 1))) := by
  refine adet_of_code mixedT Tryz.func47 rfl (by decide) Tryz.ntmps47 Tryz.results47 rfl (val_ok _) ?_
  (repeat' (first | simp (maxSteps := 5000000) (implicitDefEqProofs := false) only [ruA, ruB, aEv, aTake, aLoad, aField, aIndex, aLen, aBin, bin2, aUn, un1, aExtract, aConv, ASt.get, aget, ASt.put, aStore, aBox, aAppend, aBuildSlice, aMake, aBuild, aFill, oneParts, allC, aBinS, yv, aCells, oneC, oneCL, treeC, treeL, treeML, treeM_c, treeM_sl, treeM_rp, treeM_any, treeM_fn, treeM_bfn, aLit, aDst, aSrc, appTab, Value.cells, Value.oneCell', envOf, aResL, aOne, ↓reduceIte, reduceCtorEq, forall_const, Nat.reduceLT, Nat.reduceEqDiff, Nat.reduceAdd, Nat.reduceMul, Nat.reduceSub, Nat.reduceLeDiff, Nat.reduceBEq, eq_self, implies_true, ne_eq, dref, dref1, dref2, aExecS, aStoreB, aTakes, aTakeE, aElder, aFrom, aFresh, isLoad, aBuildSlice1, frzs, frz1, ownIds, AV.frz, AV.frzL, frzEnv, AV.shift, AV.shiftL, aFieldV, aSliceW, aSliceO, aSlice, aSliceR, aSliceS, aBd, aMax, frzAVs, frzAV, frzTab, AObj.frz, aMM, aNilS, aMay, aNil, tyK_3, tyE_56, tyF_75_0, tyA_3, tyS_3] | (with_reducible refine aIf_split (fun _ => ?_) (fun _ => ?_)) | (with_reducible refine aSel_split (fun _ => ?_) (fun _ => ?_)) | (with_reducible refine aGd_split (fun _ => ?_) (fun _ => ?_))))
  refine aLoop_of (fun st => ∃ (k : Nat) (v : Int), k ≤ q ∧ 1 ≤ v ∧ v ≤ 1 + 2 * ((q : Int) - k) ∧ begI l k v = begI l q 1 ∧ st = ⟨28, [(0, sItms l), (5, eI v), (6, eI ((k : Int) - 1))], [], 0⟩) (fun st => (match st.get 6 with | .c (.int _ n) => (n + 1).toNat | _ => 0)) ⟨_, (weak_cut1 (by (first | ((simp only [envIn, tabIn, envLt, tabLt, AObj.lt, AV.lt, AV.ltL, ruW, ASt.get, aget, ASt.put, ↓reduceIte, reduceCtorEq, Nat.reduceLT, Nat.reduceEqDiff, Nat.reduceAdd, Nat.reduceLeDiff, eq_self, implies_true]) <;> (repeat' apply And.intro) <;> first | (rw [wrapK (by omega)]; done) | (simp; done) | omega) | fail))), q, 1, Nat.le_refl _, by omega, by omega, rfl, rfl⟩ ?_
  rintro _ ⟨k, v, hk, hv0, hv1, hb, rfl⟩
  cases k with
  | zero =>
    have e0 : decide ((0 : Int) ≤ ((0 : Nat) : Int) - 1) = false := by decide
    (repeat' (first | simp (maxSteps := 5000000) (implicitDefEqProofs := false) only [ruA, ruB, aEv, aTake, aLoad, aField, aIndex, aLen, aBin, bin2, aUn, un1, aExtract, aConv, ASt.get, aget, ASt.put, aStore, aBox, aAppend, aBuildSlice, aMake, aBuild, aFill, oneParts, allC, aBinS, yv, aCells, oneC, oneCL, treeC, treeL, treeML, treeM_c, treeM_sl, treeM_rp, treeM_any, treeM_fn, treeM_bfn, aLit, aDst, aSrc, appTab, Value.cells, Value.oneCell', envOf, aResL, aOne, ↓reduceIte, reduceCtorEq, forall_const, Nat.reduceLT, Nat.reduceEqDiff, Nat.reduceAdd, Nat.reduceMul, Nat.reduceSub, Nat.reduceLeDiff, Nat.reduceBEq, eq_self, implies_true, ne_eq, dref, dref1, dref2, aExecS, aStoreB, aTakes, aTakeE, aElder, aFrom, aFresh, isLoad, aBuildSlice1, frzs, frz1, ownIds, AV.frz, AV.frzL, frzEnv, AV.shift, AV.shiftL, aFieldV, aSliceW, aSliceO, aSlice, aSliceR, aSliceS, aBd, aMax, frzAVs, frzAV, frzTab, AObj.frz, aMM, aNilS, aMay, aNil, tyK_3, tyE_56, tyF_75_0, tyA_3, tyS_3, e0] | (with_reducible refine aIf_split (fun _ => ?_) (fun _ => ?_)) | (with_reducible refine aSel_split (fun _ => ?_) (fun _ => ?_)) | (with_reducible refine aGd_split (fun _ => ?_) (fun _ => ?_))))
    rw [← hb]
    rfl
  | succ j =>
    have ej : ((j + 1 : Nat) : Int) - 1 = (j : Int) := by omega
    have hj : j < l.length := by omega
    simp only [ej]
    rw [begI, getD_of hj] at hb
    (repeat' (first | simp (maxSteps := 5000000) (implicitDefEqProofs := false) only [ruA, ruB, aEv, aTake, aLoad, aField, aIndex, aLen, aBin, bin2, aUn, un1, aExtract, aConv, ASt.get, aget, ASt.put, aStore, aBox, aAppend, aBuildSlice, aMake, aBuild, aFill, oneParts, allC, aBinS, yv, aCells, oneC, oneCL, treeC, treeL, treeML, treeM_c, treeM_sl, treeM_rp, treeM_any, treeM_fn, treeM_bfn, aLit, aDst, aSrc, appTab, Value.cells, Value.oneCell', envOf, aResL, aOne, ↓reduceIte, reduceCtorEq, forall_const, Nat.reduceLT, Nat.reduceEqDiff, Nat.reduceAdd, Nat.reduceMul, Nat.reduceSub, Nat.reduceLeDiff, Nat.reduceBEq, eq_self, implies_true, ne_eq, dref, dref1, dref2, aExecS, aStoreB, aTakes, aTakeE, aElder, aFrom, aFresh, isLoad, aBuildSlice1, frzs, frz1, ownIds, AV.frz, AV.frzL, frzEnv, AV.shift, AV.shiftL, aFieldV, aSliceW, aSliceO, aSlice, aSliceR, aSliceS, aBd, aMax, frzAVs, frzAV, frzTab, AObj.frz, aMM, aNilS, aMay, aNil, tyK_3, tyE_56, tyF_75_0, tyA_3, tyS_3, hj, row_at] | (with_reducible refine aIf_split (fun _ => ?_) (fun _ => ?_)) | (with_reducible refine aSel_split (fun _ => ?_) (fun _ => ?_)) | (with_reducible refine aGd_split (fun _ => ?_) (fun _ => ?_))))
    refine callV (arityR_A _) ?_
    have ha := arity_cases l[j]
    generalize arity l[j] = n at ha hb ⊢
    have ew1 : IntKind.i64.wrap (n - 1) = n - 1 := wrap_in (by omega) (by omega)
    have ew2 : IntKind.i64.wrap (v + (n - 1)) = v + (n - 1) := wrap_in (by omega) (by omega)
    (repeat' (first | simp (maxSteps := 5000000) (implicitDefEqProofs := false) only [ruA, ruB, aEv, aTake, aLoad, aField, aIndex, aLen, aBin, bin2, aUn, un1, aExtract, aConv, ASt.get, aget, ASt.put, aStore, aBox, aAppend, aBuildSlice, aMake, aBuild, aFill, oneParts, allC, aBinS, yv, aCells, oneC, oneCL, treeC, treeL, treeML, treeM_c, treeM_sl, treeM_rp, treeM_any, treeM_fn, treeM_bfn, aLit, aDst, aSrc, appTab, Value.cells, Value.oneCell', envOf, aResL, aOne, ↓reduceIte, reduceCtorEq, forall_const, Nat.reduceLT, Nat.reduceEqDiff, Nat.reduceAdd, Nat.reduceMul, Nat.reduceSub, Nat.reduceLeDiff, Nat.reduceBEq, eq_self, implies_true, ne_eq, dref, dref1, dref2, aExecS, aStoreB, aTakes, aTakeE, aElder, aFrom, aFresh, isLoad, aBuildSlice1, frzs, frz1, ownIds, AV.frz, AV.frzL, frzEnv, AV.shift, AV.shiftL, aFieldV, aSliceW, aSliceO, aSlice, aSliceR, aSliceS, aBd, aMax, frzAVs, frzAV, frzTab, AObj.frz, aMM, aNilS, aMay, aNil, tyK_3, tyE_56, tyF_75_0, tyA_3, tyS_3, hj, row_at, ew1, ew2] | (with_reducible refine aIf_split (fun _ => ?_) (fun _ => ?_)) | (with_reducible refine aSel_split (fun _ => ?_) (fun _ => ?_)) | (with_reducible refine aGd_split (fun _ => ?_) (fun _ => ?_))))
    · rename_i h
      have h : n < 0 := by simpa using h
      rw [← hb, if_pos h]
    · rename_i h h2
      have h : ¬ n < 0 := by simpa using h
      have h2 : v + (n - 1) = 0 := by simpa using h2
      rw [← hb, if_neg h, if_pos h2]
    · rename_i h h2
      have h : ¬ n < 0 := by simpa using h
      have h2 : ¬ v + (n - 1) = 0 := by simpa using h2
      rw [if_neg h, if_neg h2] at hb
      have ew : IntKind.i64.wrap ((j : Int) - 1) = (j : Int) - 1 := wrap_in (by omega) (by omega)
      exact roundI (weak_cut1 (by (first | ((simp only [envIn, tabIn, envLt, tabLt, AObj.lt, AV.lt, AV.ltL, ruW, ASt.get, aget, ASt.put, ↓reduceIte, reduceCtorEq, Nat.reduceLT, Nat.reduceEqDiff, Nat.reduceAdd, Nat.reduceLeDiff, eq_self, implies_true, ew]) <;> (repeat' apply And.intro) <;> first | (rw [wrapK (by omega)]; done) | (simp; done) | omega) | fail))) ⟨j, v + (n - 1), by omega, by omega, by omega, hb, rfl⟩ (by simp only [slotN, ruW, ASt.get, aget, ASt.put, ↓reduceIte, reduceCtorEq, Nat.reduceLT, Nat.reduceEqDiff, Nat.reduceAdd, Nat.reduceLeDiff, eq_self, implies_true]; omega)
set_option maxRecDepth 100000 in
theorem check04R_A (l : List Int) (hl : l.length ≤ 1000000) : ADet Tryz.prog 15 [sItms l] (val (.int .i64 (checkE l))) := by
  refine adet_of_code mixedT Tryz.func15 rfl (by decide) Tryz.ntmps15 Tryz.results15 rfl (val_ok _) ?_
  have ew : IntKind.i64.wrap ((l.length : Int) - 1) = (l.length : Int) - 1 := wrap_in (by omega) (by omega)
  (repeat' (first | simp (maxSteps := 5000000) (implicitDefEqProofs := false) only [ruA, ruB, aEv, aTake, aLoad, aField, aIndex, aLen, aBin, bin2, aUn, un1, aExtract, aConv, ASt.get, aget, ASt.put, aStore, aBox, aAppend, aBuildSlice, aMake, aBuild, aFill, oneParts, allC, aBinS, yv, aCells, oneC, oneCL, treeC, treeL, treeML, treeM_c, treeM_sl, treeM_rp, treeM_any, treeM_fn, treeM_bfn, aLit, aDst, aSrc, appTab, Value.cells, Value.oneCell', envOf, aResL, aOne, ↓reduceIte, reduceCtorEq, forall_const, Nat.reduceLT, Nat.reduceEqDiff, Nat.reduceAdd, Nat.reduceMul, Nat.reduceSub, Nat.reduceLeDiff, Nat.reduceBEq, eq_self, implies_true, ne_eq, dref, dref1, dref2, aExecS, aStoreB, aTakes, aTakeE, aElder, aFrom, aFresh, isLoad, aBuildSlice1, frzs, frz1, ownIds, AV.frz, AV.frzL, frzEnv, AV.shift, AV.shiftL, aFieldV, aSliceW, aSliceO, aSlice, aSliceR, aSliceS, aBd, aMax, frzAVs, frzAV, frzTab, AObj.frz, aMM, aNilS, aMay, aNil, tyE_56, tyK_56, tyK_3, ew] | (with_reducible refine aIf_split (fun _ => ?_) (fun _ => ?_)) | (with_reducible refine aSel_split (fun _ => ?_) (fun _ => ?_)) | (with_reducible refine aGd_split (fun _ => ?_) (fun _ => ?_))))
  · rename_i h
    have h : l.length = 0 := by simpa using h
    simp [checkE, h]
  · rename_i h h2
    have h : ¬ l.length = 0 := by simpa using h
    have h2 : 64 < l.length := by simp at h2; omega
    simp only [checkE, if_neg h, if_pos h2]
  · rename_i h h2
    have h : ¬ l.length = 0 := by simpa using h
    have h2 : ¬ 64 < l.length := by simp at h2; omega
    refine callV (begR_A l l.length (Nat.le_refl _) hl) ?_
    have hz := beg_zero (ops := l) (by omega)
    (repeat' (first | simp (maxSteps := 5000000) (implicitDefEqProofs := false) only [ruA, ruB, aEv, aTake, aLoad, aField, aIndex, aLen, aBin, bin2, aUn, un1, aExtract, aConv, ASt.get, aget, ASt.put, aStore, aBox, aAppend, aBuildSlice, aMake, aBuild, aFill, oneParts, allC, aBinS, yv, aCells, oneC, oneCL, treeC, treeL, treeML, treeM_c, treeM_sl, treeM_rp, treeM_any, treeM_fn, treeM_bfn, aLit, aDst, aSrc, appTab, Value.cells, Value.oneCell', envOf, aResL, aOne, ↓reduceIte, reduceCtorEq, forall_const, Nat.reduceLT, Nat.reduceEqDiff, Nat.reduceAdd, Nat.reduceMul, Nat.reduceSub, Nat.reduceLeDiff, Nat.reduceBEq, eq_self, implies_true, ne_eq, dref, dref1, dref2, aExecS, aStoreB, aTakes, aTakeE, aElder, aFrom, aFresh, isLoad, aBuildSlice1, frzs, frz1, ownIds, AV.frz, AV.frzL, frzEnv, AV.shift, AV.shiftL, aFieldV, aSliceW, aSliceO, aSlice, aSliceR, aSliceS, aBd, aMax, frzAVs, frzAV, frzTab, AObj.frz, aMM, aNilS, aMay, aNil, tyE_56, tyK_56, tyK_3] | (with_reducible refine aIf_split (fun _ => ?_) (fun _ => ?_)) | (with_reducible refine aSel_split (fun _ => ?_) (fun _ => ?_)) | (with_reducible refine aGd_split (fun _ => ?_) (fun _ => ?_))))
    · rename_i h3
      have h3 : ¬ rowN l 0 = some 1 := by
        rw [← hz]
        simpa using h3
      simp only [checkE, if_neg h, if_neg h2, if_neg h3]
    · rename_i h3
      have h3 : rowN l 0 = some 1 := by
        rw [← hz]
        simpa using h3
      simp only [checkE, if_neg h, if_neg h2, if_pos h3]
set_option maxRecDepth 100000 in
theorem shapeR_A (l : List Inst) (hl : l.length ≤ 1000000) : ADet Tryz.prog 12 [sInsts l] (own 75 9 (((l.map Inst.op).take 70).map eItm)) := by
  refine adet_of_code mixedT Tryz.func12 rfl (by decide) Tryz.ntmps12 Tryz.results12 rfl (own_ok _ _ _) ?_
  (repeat' (first | simp (maxSteps := 5000000) (implicitDefEqProofs := false) only [ruA, ruB, aEv, aTake, aLoad, aField, aIndex, aLen, aBin, bin2, aUn, un1, aExtract, aConv, ASt.get, aget, ASt.put, aStore, aBox, aAppend, aBuildSlice, aMake, aBuild, aFill, oneParts, allC, aBinS, yv, aCells, oneC, oneCL, treeC, treeL, treeML, treeM_c, treeM_sl, treeM_rp, treeM_any, treeM_fn, treeM_bfn, aLit, aDst, aSrc, appTab, Value.cells, Value.oneCell', envOf, aResL, aOne, ↓reduceIte, reduceCtorEq, forall_const, Nat.reduceLT, Nat.reduceEqDiff, Nat.reduceAdd, Nat.reduceMul, Nat.reduceSub, Nat.reduceLeDiff, Nat.reduceBEq, eq_self, implies_true, ne_eq, dref, dref1, dref2, aExecS, aStoreB, aTakes, aTakeE, aElder, aFrom, aFresh, isLoad, aBuildSlice1, frzs, frz1, ownIds, AV.frz, AV.frzL, frzEnv, AV.shift, AV.shiftL, aFieldV, aSliceW, aSliceO, aSlice, aSliceR, aSliceS, aBd, aMax, frzAVs, frzAV, frzTab, AObj.frz, aMM, aNilS, aMay, aNil, tyE_22, tyK_22, tyK_3, tyF_36_0, tyA_3, tyS_3, tyB_75, tyR_56] | (with_reducible refine aIf_split (fun _ => ?_) (fun _ => ?_)) | (with_reducible refine aSel_split (fun _ => ?_) (fun _ => ?_)) | (with_reducible refine aGd_split (fun _ => ?_) (fun _ => ?_))))
  refine aLoop_of (fun st => ∃ k : Nat, k ≤ l.length ∧ k ≤ 70 ∧ st = ⟨25, [(0, sInsts l), (3, .osl 0), (4, eI (k : Int))], [(0, some (.row 75 9 (((l.map Inst.op).take k).map eItm)))], 1⟩) (fun st => l.length - slotN st 4) ⟨_, ((weak_nil 3 75 9 (by simp only [ruW, ASt.get, aget, ASt.put, ↓reduceIte, reduceCtorEq, Nat.reduceLT, Nat.reduceEqDiff, Nat.reduceAdd, Nat.reduceLeDiff, eq_self, implies_true, List.take_zero])).trans (weak_ren1 [0] ⟨(by decide), (by (first | ((simp only [envInR, tabInR, envLt, tabLt, AObj.lt, AV.lt, AV.ltL, AV.ren, AV.renL, AObj.ren, List.getD_cons_zero, List.getD_cons_succ, List.length_cons, List.length_nil, ruW, ASt.get, aget, ASt.put, ↓reduceIte, reduceCtorEq, Nat.reduceLT, Nat.reduceEqDiff, Nat.reduceAdd, Nat.reduceLeDiff, eq_self, implies_true, List.take_zero]) <;> (repeat' apply And.intro) <;> first | (rw [wrapK (by omega)]; done) | (simp; done) | omega) | fail))⟩)), 0, Nat.zero_le _, by omega, rfl⟩ ?_
  rintro _ ⟨k, hk, hk2, rfl⟩
  have hfin : ¬ (k < l.length ∧ k < 70) → ((l.map Inst.op).take k) = ((l.map Inst.op).take 70) := fun h => by
    by_cases h1 : k = 70
    · rw [h1]
    · rw [List.take_of_length_le (by simp; omega), List.take_of_length_le (by simp; omega)]
  by_cases hlt : k < l.length
  · by_cases h70 : k < 70
    · have e1 : decide ((k : Int) < 70) = true := by simp; omega
      have et : ((l.map Inst.op).take (k + 1)).map eItm = ((l.map Inst.op).take k).map eItm ++ [eItm l[k].op] := by
        rw [take_snoc eItm (l.map Inst.op) (by simpa using hlt)]
        simp
      have hkl : ((l.map Inst.op).take k).length = k := by simp; omega
      (repeat' (first | simp (maxSteps := 5000000) (implicitDefEqProofs := false) only [ruA, ruB, aEv, aTake, aLoad, aField, aIndex, aLen, aBin, bin2, aUn, un1, aExtract, aConv, ASt.get, aget, ASt.put, aStore, aBox, aAppend, aBuildSlice, aMake, aBuild, aFill, oneParts, allC, aBinS, yv, aCells, oneC, oneCL, treeC, treeL, treeML, treeM_c, treeM_sl, treeM_rp, treeM_any, treeM_fn, treeM_bfn, aLit, aDst, aSrc, appTab, Value.cells, Value.oneCell', envOf, aResL, aOne, ↓reduceIte, reduceCtorEq, forall_const, Nat.reduceLT, Nat.reduceEqDiff, Nat.reduceAdd, Nat.reduceMul, Nat.reduceSub, Nat.reduceLeDiff, Nat.reduceBEq, eq_self, implies_true, ne_eq, dref, dref1, dref2, aExecS, aStoreB, aTakes, aTakeE, aElder, aFrom, aFresh, isLoad, aBuildSlice1, frzs, frz1, ownIds, AV.frz, AV.frzL, frzEnv, AV.shift, AV.shiftL, aFieldV, aSliceW, aSliceO, aSlice, aSliceR, aSliceS, aBd, aMax, frzAVs, frzAV, frzTab, AObj.frz, aMM, aNilS, aMay, aNil, tyE_22, tyK_22, tyK_3, tyF_36_0, tyA_3, tyS_3, tyB_75, tyR_56, row_at, hlt, e1] | (with_reducible refine aIf_split (fun _ => ?_) (fun _ => ?_)) | (with_reducible refine aSel_split (fun _ => ?_) (fun _ => ?_)) | (with_reducible refine aGd_split (fun _ => ?_) (fun _ => ?_))))
      refine ⟨rfl, by omega, roundI (weak_ren1 [2] ⟨(by decide), (by (first | ((simp only [envInR, tabInR, envLt, tabLt, AObj.lt, AV.lt, AV.ltL, AV.ren, AV.renL, AObj.ren, List.getD_cons_zero, List.getD_cons_succ, List.length_cons, List.length_nil, ruW, ASt.get, aget, ASt.put, ↓reduceIte, reduceCtorEq, Nat.reduceLT, Nat.reduceEqDiff, Nat.reduceAdd, Nat.reduceLeDiff, eq_self, implies_true, et]) <;> (repeat' apply And.intro) <;> first | (rw [wrapK (by omega)]; done) | (simp; done) | omega) | fail))⟩) ⟨k + 1, by omega, by omega, rfl⟩ (by simp only [slotN, ruW, ASt.get, aget, ASt.put, ↓reduceIte, reduceCtorEq, Nat.reduceLT, Nat.reduceEqDiff, Nat.reduceAdd, Nat.reduceLeDiff, eq_self, implies_true]; omega)⟩
    · have e1 : decide ((k : Int) < 70) = false := by simp; omega
      (repeat' (first | simp (maxSteps := 5000000) (implicitDefEqProofs := false) only [ruA, ruB, aEv, aTake, aLoad, aField, aIndex, aLen, aBin, bin2, aUn, un1, aExtract, aConv, ASt.get, aget, ASt.put, aStore, aBox, aAppend, aBuildSlice, aMake, aBuild, aFill, oneParts, allC, aBinS, yv, aCells, oneC, oneCL, treeC, treeL, treeML, treeM_c, treeM_sl, treeM_rp, treeM_any, treeM_fn, treeM_bfn, aLit, aDst, aSrc, appTab, Value.cells, Value.oneCell', envOf, aResL, aOne, ↓reduceIte, reduceCtorEq, forall_const, Nat.reduceLT, Nat.reduceEqDiff, Nat.reduceAdd, Nat.reduceMul, Nat.reduceSub, Nat.reduceLeDiff, Nat.reduceBEq, eq_self, implies_true, ne_eq, dref, dref1, dref2, aExecS, aStoreB, aTakes, aTakeE, aElder, aFrom, aFresh, isLoad, aBuildSlice1, frzs, frz1, ownIds, AV.frz, AV.frzL, frzEnv, AV.shift, AV.shiftL, aFieldV, aSliceW, aSliceO, aSlice, aSliceR, aSliceS, aBd, aMax, frzAVs, frzAV, frzTab, AObj.frz, aMM, aNilS, aMay, aNil, tyE_22, tyK_22, tyK_3, tyF_36_0, tyA_3, tyS_3, tyB_75, tyR_56, row_at, hlt, e1] | (with_reducible refine aIf_split (fun _ => ?_) (fun _ => ?_)) | (with_reducible refine aSel_split (fun _ => ?_) (fun _ => ?_)) | (with_reducible refine aGd_split (fun _ => ?_) (fun _ => ?_))))
      rw [← hfin (by omega)]
      exact aGives_own (by simp [ATab.get_cons])
  · (repeat' (first | simp (maxSteps := 5000000) (implicitDefEqProofs := false) only [ruA, ruB, aEv, aTake, aLoad, aField, aIndex, aLen, aBin, bin2, aUn, un1, aExtract, aConv, ASt.get, aget, ASt.put, aStore, aBox, aAppend, aBuildSlice, aMake, aBuild, aFill, oneParts, allC, aBinS, yv, aCells, oneC, oneCL, treeC, treeL, treeML, treeM_c, treeM_sl, treeM_rp, treeM_any, treeM_fn, treeM_bfn, aLit, aDst, aSrc, appTab, Value.cells, Value.oneCell', envOf, aResL, aOne, ↓reduceIte, reduceCtorEq, forall_const, Nat.reduceLT, Nat.reduceEqDiff, Nat.reduceAdd, Nat.reduceMul, Nat.reduceSub, Nat.reduceLeDiff, Nat.reduceBEq, eq_self, implies_true, ne_eq, dref, dref1, dref2, aExecS, aStoreB, aTakes, aTakeE, aElder, aFrom, aFresh, isLoad, aBuildSlice1, frzs, frz1, ownIds, AV.frz, AV.frzL, frzEnv, AV.shift, AV.shiftL, aFieldV, aSliceW, aSliceO, aSlice, aSliceR, aSliceS, aBd, aMax, frzAVs, frzAV, frzTab, AObj.frz, aMM, aNilS, aMay, aNil, tyE_22, tyK_22, tyK_3, tyF_36_0, tyA_3, tyS_3, tyB_75, tyR_56, row_at, hlt] | (with_reducible refine aIf_split (fun _ => ?_) (fun _ => ?_)) | (with_reducible refine aSel_split (fun _ => ?_) (fun _ => ?_)) | (with_reducible refine aGd_split (fun _ => ?_) (fun _ => ?_))))
    rw [← hfin (by omega)]
    exact aGives_own (by simp [ATab.get_cons])
set_option maxRecDepth 100000 in
theorem kids0_A (l : List Int) (e : Nat) (he : e < l.length) (h : arity l[e] = 0) : ADet Tryz.prog 17 [sItms l, eI (e : Int)] (val (.slice none 0 0)) := by
  refine adet_of_code mixedT Tryz.func17 rfl (by decide) Tryz.ntmps17 Tryz.results17 rfl (val_ok _) ?_
  (repeat' (first | simp (maxSteps := 5000000) (implicitDefEqProofs := false) only [ruA, ruB, aEv, aTake, aLoad, aField, aIndex, aLen, aBin, bin2, aUn, un1, aExtract, aConv, ASt.get, aget, ASt.put, aStore, aBox, aAppend, aBuildSlice, aMake, aBuild, aFill, oneParts, allC, aBinS, yv, aCells, oneC, oneCL, treeC, treeL, treeML, treeM_c, treeM_sl, treeM_rp, treeM_any, treeM_fn, treeM_bfn, aLit, aDst, aSrc, appTab, Value.cells, Value.oneCell', envOf, aResL, aOne, ↓reduceIte, reduceCtorEq, forall_const, Nat.reduceLT, Nat.reduceEqDiff, Nat.reduceAdd, Nat.reduceMul, Nat.reduceSub, Nat.reduceLeDiff, Nat.reduceBEq, eq_self, implies_true, ne_eq, dref, dref1, dref2, aExecS, aStoreB, aTakes, aTakeE, aElder, aFrom, aFresh, isLoad, aBuildSlice1, frzs, frz1, ownIds, AV.frz, AV.frzL, frzEnv, AV.shift, AV.shiftL, aFieldV, aSliceW, aSliceO, aSlice, aSliceR, aSliceS, aBd, aMax, frzAVs, frzAV, frzTab, AObj.frz, aMM, aNilS, aMay, aNil, tyE_56, tyF_75_0, tyA_3, tyS_3, tyK_3, tyR_24, row_at, he] | (with_reducible refine aIf_split (fun _ => ?_) (fun _ => ?_)) | (with_reducible refine aSel_split (fun _ => ?_) (fun _ => ?_)) | (with_reducible refine aGd_split (fun _ => ?_) (fun _ => ?_))))
  refine callV (arityR_A _) ?_
  rw [h]
  have e0 : ((0 : Int) == 0) = true := by decide
  (repeat' (first | simp (maxSteps := 5000000) (implicitDefEqProofs := false) only [ruA, ruB, aEv, aTake, aLoad, aField, aIndex, aLen, aBin, bin2, aUn, un1, aExtract, aConv, ASt.get, aget, ASt.put, aStore, aBox, aAppend, aBuildSlice, aMake, aBuild, aFill, oneParts, allC, aBinS, yv, aCells, oneC, oneCL, treeC, treeL, treeML, treeM_c, treeM_sl, treeM_rp, treeM_any, treeM_fn, treeM_bfn, aLit, aDst, aSrc, appTab, Value.cells, Value.oneCell', envOf, aResL, aOne, ↓reduceIte, reduceCtorEq, forall_const, Nat.reduceLT, Nat.reduceEqDiff, Nat.reduceAdd, Nat.reduceMul, Nat.reduceSub, Nat.reduceLeDiff, Nat.reduceBEq, eq_self, implies_true, ne_eq, dref, dref1, dref2, aExecS, aStoreB, aTakes, aTakeE, aElder, aFrom, aFresh, isLoad, aBuildSlice1, frzs, frz1, ownIds, AV.frz, AV.frzL, frzEnv, AV.shift, AV.shiftL, aFieldV, aSliceW, aSliceO, aSlice, aSliceR, aSliceS, aBd, aMax, frzAVs, frzAV, frzTab, AObj.frz, aMM, aNilS, aMay, aNil, tyE_56, tyF_75_0, tyA_3, tyS_3, tyK_3, tyR_24, e0] | (with_reducible refine aIf_split (fun _ => ?_) (fun _ => ?_)) | (with_reducible refine aSel_split (fun _ => ?_) (fun _ => ?_)) | (with_reducible refine aGd_split (fun _ => ?_) (fun _ => ?_))))
set_option maxRecDepth 100000 in
theorem kids1_A (l : List Int) (e : Nat) (he : e < l.length) (h : arity l[e] = 1) (hl : l.length ≤ 1000000) : ADet Tryz.prog 17 [sItms l, eI (e : Int)] (own 3 1 [[eI ((e : Int) - 1)]]) := by
  refine adet_of_code mixedT Tryz.func17 rfl (by decide) Tryz.ntmps17 Tryz.results17 rfl (own_ok _ _ _) ?_
  have ew : IntKind.i64.wrap ((e : Int) - 1) = (e : Int) - 1 := wrap_in (by omega) (by omega)
  (repeat' (first | simp (maxSteps := 5000000) (implicitDefEqProofs := false) only [ruA, ruB, aEv, aTake, aLoad, aField, aIndex, aLen, aBin, bin2, aUn, un1, aExtract, aConv, ASt.get, aget, ASt.put, aStore, aBox, aAppend, aBuildSlice, aMake, aBuild, aFill, oneParts, allC, aBinS, yv, aCells, oneC, oneCL, treeC, treeL, treeML, treeM_c, treeM_sl, treeM_rp, treeM_any, treeM_fn, treeM_bfn, aLit, aDst, aSrc, appTab, Value.cells, Value.oneCell', envOf, aResL, aOne, ↓reduceIte, reduceCtorEq, forall_const, Nat.reduceLT, Nat.reduceEqDiff, Nat.reduceAdd, Nat.reduceMul, Nat.reduceSub, Nat.reduceLeDiff, Nat.reduceBEq, eq_self, implies_true, ne_eq, dref, dref1, dref2, aExecS, aStoreB, aTakes, aTakeE, aElder, aFrom, aFresh, isLoad, aBuildSlice1, frzs, frz1, ownIds, AV.frz, AV.frzL, frzEnv, AV.shift, AV.shiftL, aFieldV, aSliceW, aSliceO, aSlice, aSliceR, aSliceS, aBd, aMax, frzAVs, frzAV, frzTab, AObj.frz, aMM, aNilS, aMay, aNil, tyE_56, tyF_75_0, tyA_3, tyS_3, tyK_3, tyR_24, row_at, he] | (with_reducible refine aIf_split (fun _ => ?_) (fun _ => ?_)) | (with_reducible refine aSel_split (fun _ => ?_) (fun _ => ?_)) | (with_reducible refine aGd_split (fun _ => ?_) (fun _ => ?_))))
  refine callV (arityR_A _) ?_
  rw [h]
  (repeat' (first | simp (maxSteps := 5000000) (implicitDefEqProofs := false) only [ruA, ruB, aEv, aTake, aLoad, aField, aIndex, aLen, aBin, bin2, aUn, un1, aExtract, aConv, ASt.get, aget, ASt.put, aStore, aBox, aAppend, aBuildSlice, aMake, aBuild, aFill, oneParts, allC, aBinS, yv, aCells, oneC, oneCL, treeC, treeL, treeML, treeM_c, treeM_sl, treeM_rp, treeM_any, treeM_fn, treeM_bfn, aLit, aDst, aSrc, appTab, Value.cells, Value.oneCell', envOf, aResL, aOne, ↓reduceIte, reduceCtorEq, forall_const, Nat.reduceLT, Nat.reduceEqDiff, Nat.reduceAdd, Nat.reduceMul, Nat.reduceSub, Nat.reduceLeDiff, Nat.reduceBEq, eq_self, implies_true, ne_eq, dref, dref1, dref2, aExecS, aStoreB, aTakes, aTakeE, aElder, aFrom, aFresh, isLoad, aBuildSlice1, frzs, frz1, ownIds, AV.frz, AV.frzL, frzEnv, AV.shift, AV.shiftL, aFieldV, aSliceW, aSliceO, aSlice, aSliceR, aSliceS, aBd, aMax, frzAVs, frzAV, frzTab, AObj.frz, aMM, aNilS, aMay, aNil, tyE_56, tyF_75_0, tyA_3, tyS_3, tyK_3, tyR_24, ew] | (with_reducible refine aIf_split (fun _ => ?_) (fun _ => ?_)) | (with_reducible refine aSel_split (fun _ => ?_) (fun _ => ?_)) | (with_reducible refine aGd_split (fun _ => ?_) (fun _ => ?_))))
  all_goals first
    | (refine ⟨rfl, aGives_own (by simp [ATab.get_cons])⟩; done)
    | (rename_i h; simp at h; done)
    | exact aGives_own (by simp [ATab.get_cons])
set_option maxRecDepth 100000 in
theorem kids2_A (l : List Int) (e : Nat) (he : e < l.length) (h : arity l[e] = 2) (hl : l.length ≤ 1000000) : ADet Tryz.prog 17 [sItms l, eI (e : Int)] (own 3 1 [[eI (begI l e 1 - 1)], [eI ((e : Int) - 1)]]) := by
  refine adet_of_code mixedT Tryz.func17 rfl (by decide) Tryz.ntmps17 Tryz.results17 rfl (own_ok _ _ _) ?_
  have ew : IntKind.i64.wrap ((e : Int) - 1) = (e : Int) - 1 := wrap_in (by omega) (by omega)
  (repeat' (first | simp (maxSteps := 5000000) (implicitDefEqProofs := false) only [ruA, ruB, aEv, aTake, aLoad, aField, aIndex, aLen, aBin, bin2, aUn, un1, aExtract, aConv, ASt.get, aget, ASt.put, aStore, aBox, aAppend, aBuildSlice, aMake, aBuild, aFill, oneParts, allC, aBinS, yv, aCells, oneC, oneCL, treeC, treeL, treeML, treeM_c, treeM_sl, treeM_rp, treeM_any, treeM_fn, treeM_bfn, aLit, aDst, aSrc, appTab, Value.cells, Value.oneCell', envOf, aResL, aOne, ↓reduceIte, reduceCtorEq, forall_const, Nat.reduceLT, Nat.reduceEqDiff, Nat.reduceAdd, Nat.reduceMul, Nat.reduceSub, Nat.reduceLeDiff, Nat.reduceBEq, eq_self, implies_true, ne_eq, dref, dref1, dref2, aExecS, aStoreB, aTakes, aTakeE, aElder, aFrom, aFresh, isLoad, aBuildSlice1, frzs, frz1, ownIds, AV.frz, AV.frzL, frzEnv, AV.shift, AV.shiftL, aFieldV, aSliceW, aSliceO, aSlice, aSliceR, aSliceS, aBd, aMax, frzAVs, frzAV, frzTab, AObj.frz, aMM, aNilS, aMay, aNil, tyE_56, tyF_75_0, tyA_3, tyS_3, tyK_3, tyR_24, row_at, he] | (with_reducible refine aIf_split (fun _ => ?_) (fun _ => ?_)) | (with_reducible refine aSel_split (fun _ => ?_) (fun _ => ?_)) | (with_reducible refine aGd_split (fun _ => ?_) (fun _ => ?_))))
  refine callV (arityR_A _) ?_
  rw [h]
  (repeat' (first | simp (maxSteps := 5000000) (implicitDefEqProofs := false) only [ruA, ruB, aEv, aTake, aLoad, aField, aIndex, aLen, aBin, bin2, aUn, un1, aExtract, aConv, ASt.get, aget, ASt.put, aStore, aBox, aAppend, aBuildSlice, aMake, aBuild, aFill, oneParts, allC, aBinS, yv, aCells, oneC, oneCL, treeC, treeL, treeML, treeM_c, treeM_sl, treeM_rp, treeM_any, treeM_fn, treeM_bfn, aLit, aDst, aSrc, appTab, Value.cells, Value.oneCell', envOf, aResL, aOne, ↓reduceIte, reduceCtorEq, forall_const, Nat.reduceLT, Nat.reduceEqDiff, Nat.reduceAdd, Nat.reduceMul, Nat.reduceSub, Nat.reduceLeDiff, Nat.reduceBEq, eq_self, implies_true, ne_eq, dref, dref1, dref2, aExecS, aStoreB, aTakes, aTakeE, aElder, aFrom, aFresh, isLoad, aBuildSlice1, frzs, frz1, ownIds, AV.frz, AV.frzL, frzEnv, AV.shift, AV.shiftL, aFieldV, aSliceW, aSliceO, aSlice, aSliceR, aSliceS, aBd, aMax, frzAVs, frzAV, frzTab, AObj.frz, aMM, aNilS, aMay, aNil, tyE_56, tyF_75_0, tyA_3, tyS_3, tyK_3, tyR_24, ew] | (with_reducible refine aIf_split (fun _ => ?_) (fun _ => ?_)) | (with_reducible refine aSel_split (fun _ => ?_) (fun _ => ?_)) | (with_reducible refine aGd_split (fun _ => ?_) (fun _ => ?_))))
  all_goals first
    | (rename_i h; simp at h; done)
    | skip
  refine callV (begR_A l e (by omega) hl) ?_
  have ew2 : IntKind.i64.wrap (begI l e 1 - 1) = begI l e 1 - 1 := by
    rcases beg_in l e 1 with h | h <;> exact wrap_in (by omega) (by omega)
  (repeat' (first | simp (maxSteps := 5000000) (implicitDefEqProofs := false) only [ruA, ruB, aEv, aTake, aLoad, aField, aIndex, aLen, aBin, bin2, aUn, un1, aExtract, aConv, ASt.get, aget, ASt.put, aStore, aBox, aAppend, aBuildSlice, aMake, aBuild, aFill, oneParts, allC, aBinS, yv, aCells, oneC, oneCL, treeC, treeL, treeML, treeM_c, treeM_sl, treeM_rp, treeM_any, treeM_fn, treeM_bfn, aLit, aDst, aSrc, appTab, Value.cells, Value.oneCell', envOf, aResL, aOne, ↓reduceIte, reduceCtorEq, forall_const, Nat.reduceLT, Nat.reduceEqDiff, Nat.reduceAdd, Nat.reduceMul, Nat.reduceSub, Nat.reduceLeDiff, Nat.reduceBEq, eq_self, implies_true, ne_eq, dref, dref1, dref2, aExecS, aStoreB, aTakes, aTakeE, aElder, aFrom, aFresh, isLoad, aBuildSlice1, frzs, frz1, ownIds, AV.frz, AV.frzL, frzEnv, AV.shift, AV.shiftL, aFieldV, aSliceW, aSliceO, aSlice, aSliceR, aSliceS, aBd, aMax, frzAVs, frzAV, frzTab, AObj.frz, aMM, aNilS, aMay, aNil, tyE_56, tyF_75_0, tyA_3, tyS_3, tyK_3, tyR_24, ew, ew2] | (with_reducible refine aIf_split (fun _ => ?_) (fun _ => ?_)) | (with_reducible refine aSel_split (fun _ => ?_) (fun _ => ?_)) | (with_reducible refine aGd_split (fun _ => ?_) (fun _ => ?_))))
  exact ⟨rfl, aGives_own (by simp [ATab.get_cons])⟩
def thereB (vals : List Int) (a : Int) : Bool := decide (-1 ≤ a) && decide (a < (vals.length : Int))
set_option maxRecDepth 100000 in
theorem thereR_A (s : St) (a n : Int) : ADet Tryz.prog 16 [.agg (eSt s), .agg [eI a, eI n]] (val (.bool (thereB s.vals a))) := by
  refine adet_of_code mixedT Tryz.func16 rfl (by decide) Tryz.ntmps16 Tryz.results16 rfl (val_ok _) ?_
  unfold thereB
  (repeat' (first | simp (maxSteps := 5000000) (implicitDefEqProofs := false) only [ruA, ruB, aEv, aTake, aLoad, aField, aIndex, aLen, aBin, bin2, aUn, un1, aExtract, aConv, ASt.get, aget, ASt.put, aStore, aBox, aAppend, aBuildSlice, aMake, aBuild, aFill, oneParts, allC, aBinS, yv, aCells, oneC, oneCL, treeC, treeL, treeML, treeM_c, treeM_sl, treeM_rp, treeM_any, treeM_fn, treeM_bfn, aLit, aDst, aSrc, appTab, Value.cells, Value.oneCell', envOf, aResL, aOne, ↓reduceIte, reduceCtorEq, forall_const, Nat.reduceLT, Nat.reduceEqDiff, Nat.reduceAdd, Nat.reduceMul, Nat.reduceSub, Nat.reduceLeDiff, Nat.reduceBEq, eq_self, implies_true, ne_eq, dref, dref1, dref2, aExecS, aStoreB, aTakes, aTakeE, aElder, aFrom, aFresh, isLoad, aBuildSlice1, frzs, frz1, ownIds, AV.frz, AV.frzL, frzEnv, AV.shift, AV.shiftL, aFieldV, aSliceW, aSliceO, aSlice, aSliceR, aSliceS, aBd, aMax, frzAVs, frzAV, frzTab, AObj.frz, aMM, aNilS, aMay, aNil, tyF_34_0, tyA_3, tyS_3, tyK_3, tyF_26_0, tyA_23, tyS_23, tyE_23, tyK_23] | (with_reducible refine aIf_split (fun _ => ?_) (fun _ => ?_)) | (with_reducible refine aSel_split (fun _ => ?_) (fun _ => ?_)) | (with_reducible refine aGd_split (fun _ => ?_) (fun _ => ?_))))
  all_goals (rename_i h; rw [h]; simp)
set_option maxRecDepth 100000 in
theorem valR_A (s : St) (a n v : Int) (h : valO s.vals a n = some v) : ADet Tryz.prog 20 [.agg (eSt s), .agg [eI a, eI n]] (val (.int .i64 v)) := by
  refine adet_of_code mixedT Tryz.func20 rfl (by decide) Tryz.ntmps20 Tryz.results20 rfl (val_ok _) ?_
  unfold valO at h
  by_cases h1 : a = -1
  · rw [if_pos h1] at h
    cases h
    subst h1
    have e0 : ((-1 : Int) == -1) = true := by decide
    (repeat' (first | simp (maxSteps := 5000000) (implicitDefEqProofs := false) only [ruA, ruB, aEv, aTake, aLoad, aField, aIndex, aLen, aBin, bin2, aUn, un1, aExtract, aConv, ASt.get, aget, ASt.put, aStore, aBox, aAppend, aBuildSlice, aMake, aBuild, aFill, oneParts, allC, aBinS, yv, aCells, oneC, oneCL, treeC, treeL, treeML, treeM_c, treeM_sl, treeM_rp, treeM_any, treeM_fn, treeM_bfn, aLit, aDst, aSrc, appTab, Value.cells, Value.oneCell', envOf, aResL, aOne, ↓reduceIte, reduceCtorEq, forall_const, Nat.reduceLT, Nat.reduceEqDiff, Nat.reduceAdd, Nat.reduceMul, Nat.reduceSub, Nat.reduceLeDiff, Nat.reduceBEq, eq_self, implies_true, ne_eq, dref, dref1, dref2, aExecS, aStoreB, aTakes, aTakeE, aElder, aFrom, aFresh, isLoad, aBuildSlice1, frzs, frz1, ownIds, AV.frz, AV.frzL, frzEnv, AV.shift, AV.shiftL, aFieldV, aSliceW, aSliceO, aSlice, aSliceR, aSliceS, aBd, aMax, frzAVs, frzAV, frzTab, AObj.frz, aMM, aNilS, aMay, aNil, tyF_34_0, tyA_3, tyS_3, tyK_3, tyF_34_1, tyA_2, tyS_2, tyF_26_0, tyA_23, tyS_23, tyE_23, e0] | (with_reducible refine aIf_split (fun _ => ?_) (fun _ => ?_)) | (with_reducible refine aSel_split (fun _ => ?_) (fun _ => ?_)) | (with_reducible refine aGd_split (fun _ => ?_) (fun _ => ?_))))
  · rw [if_neg h1] at h
    by_cases h2 : a < 0
    · rw [if_pos h2] at h
      cases h
    · rw [if_neg h2] at h
      obtain ⟨k, rfl⟩ : ∃ k : Nat, a = (k : Int) := ⟨a.toNat, by omega⟩
      obtain ⟨hk, rfl⟩ := List.getElem?_eq_some_iff.1 h
      simp only [Int.toNat_natCast] at hk
      have e1 : ((k : Int) == -1) = false := by rw [beq_eq_false_iff_ne]; omega
      (repeat' (first | simp (maxSteps := 5000000) (implicitDefEqProofs := false) only [ruA, ruB, aEv, aTake, aLoad, aField, aIndex, aLen, aBin, bin2, aUn, un1, aExtract, aConv, ASt.get, aget, ASt.put, aStore, aBox, aAppend, aBuildSlice, aMake, aBuild, aFill, oneParts, allC, aBinS, yv, aCells, oneC, oneCL, treeC, treeL, treeML, treeM_c, treeM_sl, treeM_rp, treeM_any, treeM_fn, treeM_bfn, aLit, aDst, aSrc, appTab, Value.cells, Value.oneCell', envOf, aResL, aOne, ↓reduceIte, reduceCtorEq, forall_const, Nat.reduceLT, Nat.reduceEqDiff, Nat.reduceAdd, Nat.reduceMul, Nat.reduceSub, Nat.reduceLeDiff, Nat.reduceBEq, eq_self, implies_true, ne_eq, dref, dref1, dref2, aExecS, aStoreB, aTakes, aTakeE, aElder, aFrom, aFresh, isLoad, aBuildSlice1, frzs, frz1, ownIds, AV.frz, AV.frzL, frzEnv, AV.shift, AV.shiftL, aFieldV, aSliceW, aSliceO, aSlice, aSliceR, aSliceS, aBd, aMax, frzAVs, frzAV, frzTab, AObj.frz, aMM, aNilS, aMay, aNil, tyF_34_0, tyA_3, tyS_3, tyK_3, tyF_34_1, tyA_2, tyS_2, tyF_26_0, tyA_23, tyS_23, tyE_23, row_at, hk, e1] | (with_reducible refine aIf_split (fun _ => ?_) (fun _ => ?_)) | (with_reducible refine aSel_split (fun _ => ?_) (fun _ => ?_)) | (with_reducible refine aGd_split (fun _ => ?_) (fun _ => ?_))))
set_option maxRecDepth 100000 in
theorem cmpR_A (op a b : Int) : ADet Tryz.prog 19 [eI op, eI a, eI b] (val (.bool (soB op (cmpI a b)))) := by
  refine adet_of_code mixedT Tryz.func19 rfl (by decide) Tryz.ntmps19 Tryz.results19 rfl (val_ok _) ?_
  (repeat' (first | simp (maxSteps := 5000000) (implicitDefEqProofs := false) only [ruA, ruB, aEv, aTake, aLoad, aField, aIndex, aLen, aBin, bin2, aUn, un1, aExtract, aConv, ASt.get, aget, ASt.put, aStore, aBox, aAppend, aBuildSlice, aMake, aBuild, aFill, oneParts, allC, aBinS, yv, aCells, oneC, oneCL, treeC, treeL, treeML, treeM_c, treeM_sl, treeM_rp, treeM_any, treeM_fn, treeM_bfn, aLit, aDst, aSrc, appTab, Value.cells, Value.oneCell', envOf, aResL, aOne, ↓reduceIte, reduceCtorEq, forall_const, Nat.reduceLT, Nat.reduceEqDiff, Nat.reduceAdd, Nat.reduceMul, Nat.reduceSub, Nat.reduceLeDiff, Nat.reduceBEq, eq_self, implies_true, ne_eq, dref, dref1, dref2, aExecS, aStoreB, aTakes, aTakeE, aElder, aFrom, aFresh, isLoad, aBuildSlice1, frzs, frz1, ownIds, AV.frz, AV.frzL, frzEnv, AV.shift, AV.shiftL, aFieldV, aSliceW, aSliceO, aSlice, aSliceR, aSliceS, aBd, aMax, frzAVs, frzAV, frzTab, AObj.frz, aMM, aNilS, aMay, aNil, tyK_3, tyK_2] | (with_reducible refine aIf_split (fun _ => ?_) (fun _ => ?_)) | (with_reducible refine aSel_split (fun _ => ?_) (fun _ => ?_)) | (with_reducible refine aGd_split (fun _ => ?_) (fun _ => ?_))))
  all_goals
    (simp only [beq_iff_eq, beq_eq_false_iff_ne, ne_eq] at *
     simp_all [soB, cmpI]
     try ((repeat' split) <;> simp_all <;> omega))
end
end Go.Proofs.YtoefohadgmlecaaGreat
