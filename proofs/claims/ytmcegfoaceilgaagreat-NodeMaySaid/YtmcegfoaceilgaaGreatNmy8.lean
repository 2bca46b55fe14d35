/-
  Parts of the proof: D7, D8, AlR, AlU, AlW, E4, F3, NumSpec, NumSortA, ZSortA, NumSortP, NumSortC, ZSortD, ZSortE, Z1, Y1, Y2, Y3, Z4, Y6, Y8, Y9.
-/
import Derived.Test.YtmcegfoaceilgaaGreatNmy7
import Derived.TacticsIn
import Derived.RangeFuncIn
import Derived.RangeFuncCalls
import Derived.RangeFuncRecord
import Derived.WalkKit
import Derived.WalkLawsBesides
import Derived.Test.YtmcegfoaceilgaaGreatSortShelf
import Derived.Deep.LoopGhost
import Derived.Deep.Draws
import Derived.Deep.QuietTactic
import Derived.OpenShut
import Derived.ProofKit
import Derived.Lib.SlicesCompact
import Derived.Sort.OwnSortedInts
import Derived.Deep.DeepCutAuto
set_option linter.unusedVariables false
set_option linter.unusedSimpArgs false
namespace Go.Proofs.YtmcegfoaceilgaaGreat
section
open Go.RowKit
section
variable {P : Program} {f : FuncId} {args : List AV}
theorem res_frz {cx : Cx} {w' : World} {L : Nat → Value} {v : Value} {R : Res} (h5 : R.Ok) (h7 : Lay cx w' R.tab L) (h8 : RVx cx w' R.tab L v R.r) (id : Nat) : (R.frz id).Ok ∧ Lay cx w' (R.frz id).tab L ∧ RVx cx w' (R.frz id).tab L v (R.frz id).r := by
  unfold Res.frz
  split
  · rename_i e' sz rows hid
    obtain ⟨h9, h10⟩ := frz_core h7 (fun k o hk => (h5.young k o hk).2) hid
    refine ⟨⟨fun k o hk => ?_, frz_lt h5.lt⟩, h9, h10 v _ h8 h5.lt⟩
    simp only [ATab.get_cons, frzTab_get] at hk
    split at hk
    · cases hk
    · cases hg : R.tab.get k with
      | none => simp [hg] at hk
      | some o' =>
        simp [hg] at hk
        subst hk
        exact ⟨(h5.young k o' hg).1, frz_obj_lt (h5.young k o' hg).2⟩
  · exact ⟨h5, h7, h8⟩
theorem res_frzs {cx : Cx} {w' : World} {L : Nat → Value} {v : Value} : ∀ (ids : List Nat) {R : Res}, R.Ok → Lay cx w' R.tab L → RVx cx w' R.tab L v R.r → (R.frzs ids).Ok ∧ Lay cx w' (R.frzs ids).tab L ∧ RVx cx w' (R.frzs ids).tab L v (R.frzs ids).r
  | [], R, h1, h2, h3 => ⟨h1, h2, h3⟩
  | id :: ids, R, h1, h2, h3 => by
    obtain ⟨h4, h5, h6⟩ := res_frz h1 h2 h3 id
    exact res_frzs ids h4 h5 h6
inductive FitsT : AV → AV → Prop
  | one {a b : AV} (h : FitsA a b) : FitsT a b
  | tup {l l' : List AV} (h : FitsAs l l') : FitsT (.tup l) (.tup l')
theorem rt_of_rv {w : World} {S : Nat → Prop} {K : Nat → Option (Nat × Value)} {x : Value} {av : AV} (h : RV w S K x av) : av.lt 0 → RT w S x av := by
  induction h with
  | tree h => exact fun _ => h
  | osl x id h => exact fun h2 => by simp [AV.lt] at h2
  | op x id i j h => exact fun h2 => by simp [AV.lt] at h2
  | agg xs cs hn hr ih =>
    intro h2
    simp only [AV.lt] at h2
    exact .agg xs cs hn fun j x av h3 h4 => ih j x av h3 h4 (ltL_iff.1 h2 av (List.mem_of_getElem? h4))
  | tup xs cs hn hr ih =>
    intro h2
    simp only [AV.lt] at h2
    exact .tup xs cs hn fun j x av h3 h4 => ih j x av h3 h4 (ltL_iff.1 h2 av (List.mem_of_getElem? h4))
  | fn f xs cs hn hr ih =>
    intro h2
    simp only [AV.lt] at h2
    exact .fn f xs cs hn fun j x av h3 h4 => ih j x av h3 h4 (ltL_iff.1 h2 av (List.mem_of_getElem? h4))
theorem RT.tup_inv {w : World} {S : Nat → Prop} {x : Value} {cs : List AV} (h : RT w S x (.tup cs)) : ∃ xs : Array Value, x = .tuple xs ∧ xs.size = cs.length ∧ ∀ (j : Nat) (x : Value) (av : AV), xs[j]? = some x → cs[j]? = some av → RT w S x av := by
  cases h with
  | tup xs _ hn hr => exact ⟨xs, rfl, hn, hr⟩
theorem FitsT.rt {w : World} {S : Nat → Prop} {v : Value} {a b : AV} (h : FitsT a b) (hr : RT w S v a) : RT w S v b := by
  cases h with
  | one h => exact h.rt hr
  | @tup l l' h =>
    obtain ⟨xs, rfl, hn, hx⟩ := hr.tup_inv
    obtain ⟨h1, h2⟩ := h.spec
    refine .tup xs l' (by omega) fun j x av h3 h4 => ?_
    have hj : j < l.length := by
      have := (List.getElem?_eq_some_iff.1 h4).1
      omega
    have h5 : l[j]? = some l[j] := List.getElem?_eq_getElem hj
    exact (h2 j _ av h5 h4).rt (hx j x _ h3 h5)
theorem tab_ok {R : Res} (h1 : tabLt R.n R.tab) (h2 : R.r.lt R.n) : R.Ok := by
  refine ⟨?_, h2⟩
  revert h1
  generalize R.tab = T
  induction T with
  | nil => exact fun _ id o h => by cases h
  | cons p T ih =>
    obtain ⟨k, ob⟩ := p
    intro h1 id o h
    rw [ATab.get_cons] at h
    cases ob with
    | none =>
      simp only [tabLt] at h1
      split at h
      · cases h
      · exact ih h1 id o h
    | some ob =>
      simp only [tabLt] at h1
      split at h
      · rename_i e
        cases h
        exact ⟨by rw [e]; exact h1.1.1, h1.1.2⟩
      · exact ih h1.2 id o h
/-- an answer that nobody writes any more -/
theorem ARel.tree {Post : Res → Prop} {r' : AV} (h : ARel P f args Post) (hl : r'.lt 0) (hp : ∀ R, Post R → ∃ ids, (R.frzs ids).r.lt 0 ∧ FitsT (R.frzs ids).r r') : ADet P f args ⟨r', [], 0⟩ :=
  ⟨h.1, fun S w vs h1 h2 h3 => (h.2 S w vs h1 h2 h3).mono fun e w' ⟨v, L, R, h4, h5, h6, h7, h8⟩ => by
    obtain ⟨ids, ha, hc⟩ := hp R h4
    obtain ⟨h9, h10, h11⟩ := res_frzs ids h5 h7 h8
    have hext : Ext (Cx.mk0 S w) w' (R.frzs ids).tab L 0 w' [] L := ⟨fun _ _ => rfl, fun b hb => ⟨hb.1, hb.2.1, fun k o hk => (by cases hk)⟩, fun k p _ hk => by simp [Kx, ATab.get] at hk⟩
    have h12 := rt_of_rv (hext.rv h11 ha) ha
    exact ⟨v, L, ⟨r', [], 0⟩, rfl, ⟨fun id o hk => (by cases hk), hl⟩, h6, ⟨h10.below, fun id o hk => (by cases hk), fun id id' o o' g hk => (by cases hk), fun b hb => hb.elim⟩, .tree (hc.rt h12)⟩⟩
end
/-- a slice of the call's own, or nil for nothing -/
theorem adet_own_nil {P : Program} {f : FuncId} {args : List AV} {e : TypeId} {sz : Nat} {rows : List (List AV)} (h : ARel P f args fun R => R = own e sz rows ∨ (R = val (.slice none 0 0) ∧ rows = [])) : ADet P f args ⟨.sl sz rows, [], 0⟩ :=
  h.tree (by simp [AV.lt]) fun R hR => by
    rcases hR with rfl | ⟨rfl, rfl⟩
    · refine ⟨[0], ?_⟩
      have e : ((own e sz rows).frzs [0]).r = .sl sz rows := by simp [Res.frzs, Res.frz, own, ATab.get_cons, AV.frz]
      rw [e]
      exact ⟨trivial, .one (.one (.refl _))⟩
    · exact ⟨[], trivial, .one (.one (.nil sz))⟩
theorem clone64_A (l : List Int) (hl : l.length ≤ 1000000) : ADet Tryz.prog 90 [sI l] ⟨sI l, [], 0⟩ := by
  refine adet_own_nil (e := 2) ?_
  refine arel_of_code mixedT Tryz.func90 rfl (by decide) Tryz.ntmps90 Tryz.results90 rfl ?_
  (repeat' (first | simp (maxSteps := 5000000) (implicitDefEqProofs := false) only [ruA, aEv, aBin, ASt.get, aget, ASt.put, envOf, ↓reduceIte, reduceCtorEq, Nat.reduceLT, eq_self, aNilS, tyK_23] | (with_reducible refine aIf_split (fun _ => ?_) (fun _ => ?_)) | (with_reducible refine aSel_split (fun _ => ?_) (fun _ => ?_)) | (with_reducible refine aGd_split (fun _ => ?_) (fun _ => ?_))))
  intro c hc
  cases c with
  | true =>
    (repeat' (first | simp (maxSteps := 5000000) (implicitDefEqProofs := false) only [ruA, aEv, ASt.get, aget, ASt.put, aResL, aOne, ↓reduceIte, Nat.reduceLT, eq_self] | (with_reducible refine aIf_split (fun _ => ?_) (fun _ => ?_)) | (with_reducible refine aSel_split (fun _ => ?_) (fun _ => ?_)) | (with_reducible refine aGd_split (fun _ => ?_) (fun _ => ?_))))
    exact retV (.inr ⟨rfl, hc rfl⟩)
  | false =>
    (repeat' (first | simp (maxSteps := 5000000) (implicitDefEqProofs := false) only [ruA, ruB, aEv, ASt.get, aget, ASt.put, aAppend, aBuildSlice, aCells, aLit, aDst, aSrc, appTab, Value.cells, aResL, aOne, ↓reduceIte, reduceCtorEq, Nat.reduceLT, Nat.reduceEqDiff, Nat.reduceAdd, Nat.reduceMul, eq_self, aBuildSlice1, frzs, ownIds, tyR_23] | (with_reducible refine aIf_split (fun _ => ?_) (fun _ => ?_)) | (with_reducible refine aSel_split (fun _ => ?_) (fun _ => ?_)) | (with_reducible refine aGd_split (fun _ => ?_) (fun _ => ?_))))
    exact ⟨rfl, by omega, retO rfl (.inl rfl)⟩
def startS (m : Mod) : St := ⟨m.inits, 0, 0, List.replicate m.events.length 0, List.replicate m.events.length 0⟩
def startR (m : Mod) : Res := ⟨.agg [sI m.inits, eI 0, eI 0, .osl 0, .osl 1], [(0, some (.row 3 1 ((List.replicate m.events.length 0).map fun n => [eI n]))), (1, some (.row 3 1 ((List.replicate m.events.length 0).map fun n => [eI n])))], 2⟩
theorem startR_ok (m : Mod) : (startR m).Ok := tab_ok (by simp [startR, tabLt, AObj.lt]) (by simp [startR, AV.lt, AV.ltL])
set_option maxRecDepth 100000 in
theorem start_A (m : Mod) (hl : m.inits.length ≤ 1000000) (hl2 : m.events.length ≤ 1000000) : ADet Tryz.prog 57 [.agg (eMod m)] ⟨.agg (eSt (startS m)), [], 0⟩ := by
  refine ADet.still (R := startR m) [0, 1] ?_ ?_ (by simp [AV.lt, AV.ltL])
  · refine adet_of_code mixedT Tryz.func57 rfl (by decide) Tryz.ntmps57 Tryz.results57 rfl (startR_ok _) ?_
    (repeat' (first | simp (maxSteps := 5000000) (implicitDefEqProofs := false) only [ruA, ruB, aEv, ASt.get, aget, ASt.put, aBox, aCells, oneC, oneCL, Value.cells, Value.oneCell', envOf, ↓reduceIte, Nat.reduceLT, Nat.reduceAdd, eq_self, tyZ_35] | (with_reducible refine aIf_split (fun _ => ?_) (fun _ => ?_)) | (with_reducible refine aSel_split (fun _ => ?_) (fun _ => ?_)) | (with_reducible refine aGd_split (fun _ => ?_) (fun _ => ?_))))
    refine aDraw_held [1] [0, 1, 3, 4, 5, 7, 8, 9] (.three 2 (.two 6 (.exec 10 (.take 11 (.exec 12 .done))) 10 (.exec 6 (.take 11 (.exec 12 .done)))) 6 (.two 2 (.exec 10 (.take 11 (.exec 12 .done))) 10 (.exec 2 (.take 11 (.exec 12 .done)))) 10 (.two 2 (.exec 6 (.take 11 (.exec 12 .done))) 6 (.exec 2 (.take 11 (.exec 12 .done))))) (by kernel_rfl) (by simp [ATab.get_cons]) ?_
    (repeat' (first | simp (maxSteps := 5000000) (implicitDefEqProofs := false) only [ruA, ruB, aEv, aTake, aLoad, aField, aLen, ASt.get, aget, ASt.put, aMake, aBuild, aFill, oneParts, aCells, oneC, oneCL, Value.cells, Value.oneCell', aResL, aOne, ↓reduceIte, reduceCtorEq, Nat.reduceLT, Nat.reduceEqDiff, Nat.reduceAdd, Nat.reduceLeDiff, eq_self, ne_eq, aExecS, aStoreB, aTakes, aTakeE, aFrom, AV.shift, aMay, tyA_35, tyS_35, tyF_32_1, tyA_23, tyS_23, tyF_32_5, tyA_26, tyS_26, tyE_26, tyR_33, tyZ_3, tyB_35] | (with_reducible refine aIf_split (fun _ => ?_) (fun _ => ?_)) | (with_reducible refine aSel_split (fun _ => ?_) (fun _ => ?_)) | (with_reducible refine aGd_split (fun _ => ?_) (fun _ => ?_)) | (with_reducible refine aDraw_quiet (by kernel_rfl) ?_) | ((with_reducible apply callT (g := 90)); exact (clone64_A _ hl); exact (.inl (by simp [roL, roA]))) | (with_reducible apply And.intro)))
    all_goals first
      | omega
      | exact ⟨[2, 3], by decide, rfl, by simp [aTabs, startR, ATab.get_cons]⟩
      | exact ⟨[3, 2], by decide, rfl, by simp [aTabs, startR, ATab.get_cons]⟩
      | trace_state
  · simp [startR, startS, Res.frzs, Res.frz, ATab.get_cons, AV.frz, AV.frzL, frzTab, AObj.frz]
end
section
open Go.RowKit
def beginM (m : Mod) : St := passM m (-1) (startS m) m.order.length
set_option maxRecDepth 100000 in
theorem begin_A (m : Mod) (hf : Fit m) (hc : condOk m) (hp : ∀ p ∈ m.stages, ok64 p.2) (hi : ∀ x ∈ m.inits, ok64 x) : ADet Tryz.prog 31 [.agg (eMod m)] ⟨.agg (eSt (beginM m)), [], 0⟩ := by
  refine adet_of_code mixedT Tryz.func31 rfl (by decide) Tryz.ntmps31 Tryz.results31 rfl (stOk _) ?_
  obtain ⟨-, -, -, hel, -, -, -, -, -, hil⟩ := id hf.sizes
  (repeat' (first | simp (maxSteps := 5000000) (implicitDefEqProofs := false) only [ruA, ruB, aEv, ASt.get, aget, ASt.put, aBox, aCells, oneC, oneCL, Value.cells, Value.oneCell', envOf, ↓reduceIte, Nat.reduceLT, Nat.reduceAdd, eq_self, tyZ_35] | (with_reducible refine aIf_split (fun _ => ?_) (fun _ => ?_)) | (with_reducible refine aSel_split (fun _ => ?_) (fun _ => ?_)) | (with_reducible refine aGd_split (fun _ => ?_) (fun _ => ?_))))
  refine aDraw_held [1] [0, 1] (.exec 2 (.exec 3 (.exec 4 .done))) (by kernel_rfl) (by simp [ATab.get_cons]) ?_
  (repeat' (first | simp (maxSteps := 5000000) (implicitDefEqProofs := false) only [ruA, ruB, aEv, aTake, aLoad, ASt.get, aget, ASt.put, aCells, oneC, oneCL, Value.oneCell', aResL, aOne, ↓reduceIte, reduceCtorEq, Nat.reduceLT, Nat.reduceEqDiff, Nat.reduceAdd, Nat.reduceLeDiff, eq_self, aExecS, aStoreB, aTakes, aFrom, AV.shift, AV.shiftL, aMay, tyA_35, tyS_35, tyA_32, tyS_32] | (with_reducible refine aIf_split (fun _ => ?_) (fun _ => ?_)) | (with_reducible refine aSel_split (fun _ => ?_) (fun _ => ?_)) | (with_reducible refine aGd_split (fun _ => ?_) (fun _ => ?_)) | (with_reducible refine aDraw_quiet (by kernel_rfl) ?_) | ((with_reducible apply callT (g := 57)); exact (start_A _ (by omega) (by omega)); exact (.inl (by simp [roL, roA, treeL, treeC]))) | ((with_reducible apply callT (g := 56)); exact (pass_A m (startS m) (-1) hf hc hp hi); exact (.inl (by simp [roL, roA, treeL, treeC])))))
  exact gives_tree (by simp [AV.ren, AV.renL, beginM])
end
section
open Go.RowKit

section
variable {P : Program} {cx : Cx} {a : Act} {w w' w'' : World} {st : ASt} {tab tab' tab'' : ATab} {L L' L'' : Nat → Value} {nx nx' nx'' : Nat}
theorem Fr.refl : Fr cx w tab L nx w tab L nx := ⟨Ext.refl .., Nat.le_refl _, fun _ _ _ => rfl, fun id o g h1 h2 _ => ⟨id, o, h1, h2⟩, Nat.le_refl _⟩
theorem Fr.trans (h : Fr cx w tab L nx w' tab' L' nx') (k : Fr cx w' tab' L' nx' w'' tab'' L'' nx'') : Fr cx w tab L nx w'' tab'' L'' nx'' :=
  ⟨⟨fun b hb => (k.ext.blk b (h.ext.sub b hb)).trans (h.ext.blk b hb), fun b hb => k.ext.sub b (h.ext.sub b hb), fun id p hid hp => h.ext.loc id p hid (k.ext.loc id p (Nat.lt_of_lt_of_le hid h.next) hp)⟩,
   Nat.le_trans h.size k.size,
   fun j hj hn => (k.keep j (Nat.lt_of_lt_of_le hj h.size) fun id o h1 h2 => (h.young id o j h1 h2 hj).elim fun id2 ⟨o2, h3, h4⟩ => hn id2 o2 h3 h4).trans (h.keep j hj hn),
   fun id o g h1 h2 hg => (k.young id o g h1 h2 (Nat.lt_of_lt_of_le hg h.size)).elim fun id2 ⟨o2, h3, h4⟩ => h.young id2 o2 g h3 h4 hg,
   Nat.le_trans h.next k.next⟩
theorem put_tab (st : ASt) (d : Option Nat) (av : AV) : (st.put d av).tab = st.tab := by cases d <;> rfl
theorem put_next (st : ASt) (d : Option Nat) (av : AV) : (st.put d av).next = st.next := by cases d <;> rfl
theorem fr_merge (hy : ∀ id o, tab.get id = some o → id < nx) (hb : Below w.heap.size w w') (hold : ∀ id, id < nx → tab'.get id = tab.get id ∧ L' id = L id) (hnew : ∀ id o g, nx ≤ id → tab'.get id = some o → vblk (L' id) = some g → w.heap.size ≤ g) (hn : nx ≤ nx') : Fr cx w tab L nx w' tab' L' nx' :=
  ⟨ext_merge hb hold hy hnew, hb.size, fun k hk _ => hb.block k hk, fun id o g h1 h2 hg => by
    rcases Nat.lt_or_ge id nx with hlt | hge
    · exact ⟨id, o, by rw [← (hold id hlt).1]; exact h1, by rw [← (hold id hlt).2]; exact h2⟩
    · exact absurd (hnew id o g hge h1 h2) (by omega), hn⟩
theorem fr_new (h : Conc cx a w st L) (hb : Below w.heap.size w w') {v : Value} {ob : AObj} (hnew : ∀ g, vblk v = some g → w.heap.size ≤ g) : Fr cx w st.tab L st.next w' ((st.next, some ob) :: st.tab) (updL L st.next v) (st.next + 1) :=
  fr_merge (fun id o hid => (h.young id o hid).1) hb (fun id hid => by unfold updL; rw [ATab.get_cons, if_neg (by omega), if_neg (by omega)]; exact ⟨rfl, rfl⟩)
    (fun id o g h1 h2 h3 => by
      rw [ATab.get_cons] at h2
      unfold updL at h3
      split at h2
      · rename_i e
        rw [if_pos e] at h3
        exact hnew g h3
      · have := (h.young id o h2).1
        omega) (Nat.le_succ _)
theorem fr_upd {id : Nat} {o o' : AObj} (hid : st.tab.get id = some o) (hsz : o'.sz = o.sz) (hs : w'.heap.size = w.heap.size) (hb : ∀ k, vblk (L id) ≠ some k → w'.heap[k]? = w.heap[k]?) : Fr cx w st.tab L st.next w' ((id, some o') :: st.tab) L st.next := by
  have hget : ∀ k ok, ATab.get ((id, some o') :: st.tab) k = some ok → ∃ ok', st.tab.get k = some ok' ∧ ok.sz = ok'.sz := fun k ok hk => by
    rw [ATab.get_cons] at hk
    split at hk
    · rename_i e
      cases hk
      exact ⟨o, by rw [e]; exact hid, hsz⟩
    · exact ⟨ok, hk, rfl⟩
  refine ⟨⟨fun b hb' => hb b (hb'.2.2 id o hid), fun b hb' => ⟨by rw [hs]; exact hb'.1, hb'.2.1, fun k ok hk => ?_⟩, fun k p _ hk => ?_⟩, by rw [hs]; exact Nat.le_refl _, fun k hk hn => hb k (hn id o hid), fun k ok g h1 h2 _ => ?_, Nat.le_refl _⟩
  · obtain ⟨ok', h1, _⟩ := hget k ok hk
    exact hb'.2.2 k ok' h1
  · unfold Kx at *
    cases ho : ATab.get ((id, some o') :: st.tab) k with
    | none => simp [ho] at hk
    | some ok =>
      obtain ⟨ok', h1, h2⟩ := hget k ok ho
      rw [h1]
      simpa [ho, h2] using hk
  · obtain ⟨ok', h3, _⟩ := hget k ok h1
    exact ⟨k, ok', h3, h2⟩
theorem fr_frz1 (id : Nat) : Fr cx w st.tab L st.next w (frz1 st id).tab L (frz1 st id).next := by
  unfold frz1
  split
  · rename_i e sz rows hid
    have hget : ∀ k ok, ATab.get ((id, none) :: frzTab id sz rows st.tab) k = some ok → ∃ ok', st.tab.get k = some ok' ∧ ok.sz = ok'.sz := fun k ok hk => by
      rw [ATab.get_cons, frzTab_get] at hk
      split at hk
      · cases hk
      · cases hg : st.tab.get k with
        | none => simp [hg] at hk
        | some o' =>
          simp [hg] at hk
          exact ⟨o', rfl, by rw [← hk, frz_sz]⟩
    refine ⟨⟨fun _ _ => rfl, fun b hb' => ⟨hb'.1, hb'.2.1, fun k ok hk => ?_⟩, fun k p _ hk => ?_⟩, Nat.le_refl _, fun k hk hn => rfl, fun k ok g h1 h2 _ => ?_, Nat.le_refl _⟩
    · obtain ⟨ok', h1, _⟩ := hget k ok hk
      exact hb'.2.2 k ok' h1
    · unfold Kx at *
      cases ho : ATab.get ((id, none) :: frzTab id sz rows st.tab) k with
      | none => simp [ho] at hk
      | some ok =>
        obtain ⟨ok', h1, h2⟩ := hget k ok ho
        rw [h1]
        simpa [ho, h2] using hk
    · obtain ⟨ok', h3, _⟩ := hget k ok h1
      exact ⟨k, ok', h3, h2⟩
  · exact Fr.refl
theorem fr_frzs : ∀ (ids : List Nat) {st : ASt}, Fr cx w st.tab L st.next w (frzs st ids).tab L (frzs st ids).next
  | [], _ => Fr.refl
  | id :: ids, st => (fr_frz1 id).trans (fr_frzs ids (st := frz1 st id))
theorem fr_app (h : Conc cx a w st L) {v v' : Value} {oid : Option Nat} {ob : AObj} (hg : w.grownBy w' v.ownBlock) (hv : vblk v' = v.ownBlock ∨ vblk v' = some w.heap.size)
    (hown : ∀ g, v.ownBlock = some g → ∃ id, oid = some id ∧ vblk (L id) = some g) (hoid : ∀ id, oid = some id → ∃ o, st.tab.get id = some o) : Fr cx w st.tab L st.next w' (appTab st.tab st.next oid ob) (updL L st.next v') (st.next + 1) := by
  have hnot : ∀ k, (∀ id o, st.tab.get id = some o → vblk (L id) ≠ some k) → some k ≠ v.ownBlock := fun k hn e => by
    obtain ⟨id, h1, h2⟩ := hown k e.symm
    obtain ⟨o, h3⟩ := hoid id h1
    exact hn id o h3 h2
  have hget : ∀ k ok, (appTab st.tab st.next oid ob).get k = some ok → k = st.next ∨ (k < st.next ∧ st.tab.get k = some ok) := fun k ok hk => by
    rw [appTab_get] at hk
    split at hk
    · exact .inl (by assumption)
    · split at hk
      · cases hk
      · exact .inr ⟨(h.young k ok hk).1, hk⟩
  refine ⟨⟨fun b hb => hg.block b hb.1 (hnot b hb.2.2), fun b hb => ⟨Nat.lt_of_lt_of_le hb.1 hg.size, hb.2.1, fun k ok hk => ?_⟩, fun k p hlt hk => ?_⟩, hg.size, fun k hk hn => hg.block k hk (hnot k hn), fun k ok g h1 h2 hlt => ?_, Nat.le_succ _⟩
  · unfold updL
    rcases hget k ok hk with rfl | ⟨hlt, ho⟩
    · rw [if_pos rfl]
      rcases hv with hv | hv
      · rw [hv]
        exact fun e => hnot b hb.2.2 e.symm
      · rw [hv]
        intro e
        cases e
        exact absurd hb.1 (by omega)
    · rw [if_neg (by omega)]
      exact hb.2.2 k ok ho
  · unfold Kx updL at *
    rw [if_neg (by omega)] at hk
    cases ho : (appTab st.tab st.next oid ob).get k with
    | none => simp [ho] at hk
    | some ok =>
      rcases hget k ok ho with rfl | ⟨_, h1⟩
      · omega
      · rw [h1]
        rw [ho] at hk
        exact hk
  · unfold updL at h2
    rcases hget k ok h1 with rfl | ⟨hlt', ho⟩
    · rw [if_pos rfl] at h2
      rcases hv with hv | hv
      · rw [hv] at h2
        obtain ⟨id, h3, h4⟩ := hown g h2
        obtain ⟨o, h5⟩ := hoid id h3
        exact ⟨id, o, h5, h4⟩
      · rw [hv] at h2
        cases h2
        omega
    · rw [if_neg (by omega)] at h2
      exact ⟨k, ok, ho, h2⟩
/-- what follows an operation, and what stays -/
abbrev AfterF (cx : Cx) (a : Act) (w : World) (st : ASt) (L : Nat → Value) (K : ASt → Prop) : Act → World → Prop := fun a' w' => ∃ st' L', K st' ∧ Conc cx a' w' st' L' ∧ Fr cx w st.tab L st.next w' st'.tab L' st'.next ∧ a'.defers = a.defers
theorem put_defers (a : Act) (d : Option Nat) (v : Value) : (a.put d v).defers = a.defers := by cases d <;> rfl
theorem pure_wpF {o : Oper} {K : ASt → Prop} {Q : Exit → Act → World → Prop} (h : Conc cx a w st L) (hp : aPure P st.tab (aEv st) o.op (aK st o.dst K)) : o.wp P a w (AfterF cx a w st L K) Q := by
  obtain ⟨v, av, h1, h2, h3, h4, _⟩ := pure_ok h.lay (fun id o hid => (h.young id o hid).2) (eval_ok h) hp
  exact wp_value (h4 w (Below.refl _ _)) ⟨_, L, h1, conc_pure h h2 h3 o.dst, (by rw [put_tab, put_next]; exact Fr.refl), put_defers _ _ _⟩
/-- an operation that may stand in a round -/
def fOp (o : Oper) : Bool := match o.op with
  | .slice .. => false
  | .defer _ => false
  | _ => true
theorem op_okF {o : Oper} {K : ASt → Prop} {Q : Exit → Act → World → Prop} (h : Conc cx a w st L) (hp : aOp P o K st) (hf : fOp o = true) : o.wp P a w (AfterF cx a w st L K) Q := by
  obtain ⟨dst, op, ty, pos, aft, gd⟩ := o
  unfold aOp at hp
  simp only at hp
  split at hp
  · rename_i t x
    obtain ⟨h1, h2⟩ := hp
    have he := eval_ok h x
    obtain ⟨h3, h4⟩ := box_ok (P := P) (t := t) h he.1 he.2 h1 dst
    exact wp_value (by simp [execOp, h3]) ⟨_, _, h2, h4, (by rw [put_tab, put_next]; exact fr_new h ((Below.refl _ _).alloc (Nat.le_refl _) _) (fun g hg => by simp [vblk] at hg; omega)), put_defers _ _ _⟩
  · rename_i t
    split at hp
    · rename_i z hz
      obtain ⟨h1, h2⟩ := hp
      obtain ⟨h3, h4⟩ := box_ok (P := P) (t := t) (av := .c z) h (.tree (.c z)) trivial h1 dst
      exact wp_value (by simp [execOp, alloc_run hz, h3]) ⟨_, _, h2, h4, (by rw [put_tab, put_next]; exact fr_new h ((Below.refl _ _).alloc (Nat.le_refl _) _) (fun g hg => by simp [vblk] at hg; omega)), put_defers _ _ _⟩
    · exact hp.elim
  · rename_i t p x
    unfold aStore at hp
    split at hp
    · rename_i id i j hpe
      split at hp
      · rename_i ty cells hid
        obtain ⟨rfl, h0, h1, h2, h3, h4⟩ := hp
        have hpv := (eval_ok h p).1
        rw [hpe] at hpv
        have hx := eval_ok h x
        obtain ⟨w', h5, h6, h7, h8⟩ := store_box_ok h hpv hid hx.1 hx.2 h0 h1 h2 h3 dst
        exact wp_skip' (by simp [execOp, h5]) ⟨_, _, h4, h6, (by rw [put_tab, put_next]; exact fr_upd hid (by simp only [AObj.sz, List.length_append, List.length_take, List.length_drop]; omega) h7 h8), put_defers _ _ _⟩
      · rename_i e sz rows hid
        obtain ⟨hi, h0, h1, h2, h3, h3', h4⟩ := hp
        have hpv := (eval_ok h p).1
        rw [hpe] at hpv
        have hx := eval_ok h x
        obtain ⟨w', h5, h6, h7, h8⟩ := store_row_ok h hpv hid hx.1 hx.2 hi h0 h1 h2 h3 h3' dst
        exact wp_skip' (by simp [execOp, h5]) ⟨_, _, h4, h6, (by rw [put_tab, put_next]; exact fr_upd hid rfl h7 h8), put_defers _ _ _⟩
      · exact hp.elim
    · exact hp.elim
  · rename_i t n parts
    unfold aBuildSlice at hp
    have hfr := fr_frzs (cx := cx) (w := w) (L := L) (st := st) (ownIds (parts.toList.flatMap fun (p : Nat × Operand) => aCells (aEv st p.2)))
    replace h := conc_frzs (ownIds (parts.toList.flatMap fun (p : Nat × Operand) => aCells (aEv st p.2))) h
    unfold aBuildSlice1 at hp
    split at hp
    · rename_i e sz by_ ht
      obtain ⟨⟨h1, rfl, h3, h5⟩, h6⟩ := hp
      obtain ⟨v', w', L', h7, h8, hb, rfl, hv⟩ := buildSlice_ok h ht h1 h3 h5 dst
      refine wp_value ?_ ⟨_, _, h6, h8, (by rw [put_tab, put_next]; exact hfr.trans (fr_new h hb fun g hg => by rw [hv] at hg; cases hg; exact Nat.le_refl _)), put_defers _ _ _⟩
      simp only [Array.toArray_toList] at h7
      simp [execOp]
      simp at h7
      simp [h7]
    · exact hp.elim
  · rename_i t l c
    unfold aMake at hp
    split at hp
    · rename_i e sz by_ k1 n k2 m ht hl hc
      split at hp
      · rename_i z hz
        obtain ⟨⟨rfl, h1, h2, h3, h4⟩, h5⟩ := hp
        have hl' := (eval_ok h l).1
        have hc' := (eval_ok h c).1
        rw [hl] at hl'
        rw [hc] at hc'
        obtain ⟨v', w', L', h6, h7, hb, rfl, hv⟩ := make_ok (k1 := k1) (k2 := k2) h ht hz h1 h2 h3 h4 dst
        exact wp_value (by simp [execOp, hl'.c_inv, hc'.c_inv, h6]) ⟨_, _, h5, h7, (by rw [put_tab, put_next]; exact fr_new h hb fun g hg => by rw [hv] at hg; cases hg; exact Nat.le_refl _), put_defers _ _ _⟩
      · exact hp.elim
    · exact hp.elim
  · rename_i t parts
    obtain ⟨v, cs, h1, h2, h3, h4⟩ := build_wp h hp
    refine wp_value ?_ ⟨_, _, h4, conc_pure h h1 h2 dst, (by rw [put_tab, put_next]; exact Fr.refl), put_defers _ _ _⟩
    simp [execOp, h3 w]
  · cases hf
  · rename_i c
    obtain ⟨callee, args, argTypes⟩ := c
    simp only at hp
    split at hp
    · split at hp
      · rename_i x y t t' h1 h2
        obtain rfl : args = #[x, y] := by cases args; simp_all
        obtain rfl : argTypes = #[t, t'] := by cases argTypes; simp_all
        obtain ⟨rfl, hp⟩ := hp
        unfold aAppend at hp
        split at hp
        · rename_i e sz by_ ht
          split at hp
          · rename_i oid rows rows2 hx hy
            obtain ⟨⟨h3, h4⟩, h5⟩ := hp
            obtain ⟨v', w', L', h6, h7, hg, rfl, hv, hown⟩ := append_ok (ty := ty) h (eval_ok h x).1 (eval_ok h y).1 ht hx hy (by simpa [maxLen] using h3) h4 dst
            have hoid : ∀ id, oid = some id → ∃ o, st.tab.get id = some o := fun id hid => by
              subst hid
              unfold aDst at hx
              split at hx
              · rename_i id' hid'
                split at hx
                · rename_i e' sz' rows' hget
                  split at hx
                  · cases hx
                    exact ⟨_, hget⟩
                  · cases hx
                · cases hx
              · cases hx
              · cases hx
            exact wp_value (by simp [execOp, resolve, invoke, builtin, h6]) ⟨_, _, h5, h7, (by rw [put_tab, put_next]; exact fr_app h hg hv hown hoid), put_defers _ _ _⟩
          · exact hp.elim
        · exact hp.elim
      · exact hp.elim
    · rename_i f
      obtain ⟨g, xs, cs, hg, hxn, hxr, hp, hcs⟩ := aFn_inv (eval_ok h f).1 (eval_ok h f).2 hp
      have hent : Enters P g := by
        rcases hp with ⟨R, hd, _⟩ | ⟨_, (⟨_, _, _, _, _, _, _, _, hd, _⟩ | ⟨_, _, _, _, _, _, _, _, _, hd, _⟩) | ⟨_, R, hd, _⟩⟩
        · exact hd.1
        · exact hd.1
        · exact hd.1
        · exact hd.1
      have hrun : (execOp a.eval { dst := dst, op := .call { callee := .value f, args := args, argTypes := argTypes }, type := ty, pos := pos, after := aft, guard := gd }).run P w = .ok (.enter g (args.map a.eval ++ xs)) w := by
        have := hent (args.map a.eval ++ xs) w
        simp [execOp, resolve, hg, Deferred.ofValue, invoke, this]
      unfold Oper.wp
      rw [hrun]
      show Calls P g (args.map a.eval ++ xs) w _
      have hargs := args_rv h (args := args) hxn hxr
      rcases hp with hp | ⟨_, hp | ⟨ids, hp⟩⟩
      · refine (call_ok h hargs.1 hargs.2 hp dst).mono ?_
        rintro e w' ⟨v, av, st', L', rfl, h1, h2, hb, hold, hnew, hnx⟩
        exact ⟨_, _, h1, h2, (by rw [put_tab, put_next]; exact fr_merge (fun id o hid => (h.young id o hid).1) hb hold hnew hnx), put_defers _ _ _⟩
      rotate_left
      · have hlt : ∀ (j : Nat) (v : Value) (av : AV), (args.map a.eval ++ xs)[j]? = some v → (args.toList.map (aEv st) ++ cs)[j]? = some av → RVx cx w st.tab L v av ∧ av.lt st.next := fun j v av h1 h2 => ⟨hargs.2 j v av h1 h2, by
          rcases List.mem_append.1 (List.mem_of_getElem? h2) with h3 | h3
          · obtain ⟨x, _, rfl⟩ := List.mem_map.1 h3
            exact (eval_ok h x).2
          · exact hcs av h3⟩
        obtain ⟨h3, h4⟩ := frzAVs_ok ids h hlt
        have hz := conc_frzs ids h
        refine (call_ok hz (by rw [h3]; exact hargs.1) (fun j v av h5 h6 => (h4 j v av h5 h6).1) hp dst).mono ?_
        rintro e w' ⟨v, av, st', L', rfl, h1, h2, hb, hold, hnew, hnx⟩
        exact ⟨_, _, h1, h2, (by rw [put_tab, put_next]; exact (fr_frzs ids).trans (fr_merge (fun id o hid => (hz.young id o hid).1) hb hold hnew hnx)), put_defers _ _ _⟩
      · refine (updM_ok h hargs.1 hargs.2 hp dst).mono ?_
        rintro e w' ⟨v, av, st', L', rfl, h1, h2, h3⟩
        exact ⟨_, _, h1, h2, (by rw [put_tab, put_next]; exact h3), put_defers _ _ _⟩
    · exact pure_wpF h hp
  · exact pure_wpF h hp
end
end
section
open Go.RowKit

section
variable {P : Program} {cx : Cx} {a : Act} {w w' : World} {st : ASt} {L L' : Nat → Value} {l0 n : Nat}
/-- memory that the caller does not write: with what was laid since -/
def grow (T : Nat → Prop) (w w' : World) (b : Nat) : Prop := T b ∨ (w.heap.size ≤ b ∧ b < w'.heap.size)
theorem conc_move {c c' : Cx} (h : Conc c a w st L) (hw : c'.w0 = c.w0) (hblk : ∀ b, Sx c w st.tab L b → w'.heap[b]? = w.heap[b]?) (hown : ∀ id o g, st.tab.get id = some o → vblk (L id) = some g → w'.heap[g]? = w.heap[g]?) (hS : ∀ b, Sx c w st.tab L b → Sx c' w' st.tab L b)
    (hb : BelowX c'.X c'.w0.heap.size c'.w0 w') (hex : ∀ b, c'.X b → b < w'.heap.size ∧ ∀ id o, st.tab.get id = some o → vblk (L id) ≠ some b) : Conc c' a w' st L := by
  have hrv : ∀ {x av nx}, RVx c w st.tab L x av → av.lt nx → RVx c' w' st.tab L x av := fun hr hl => hr.mono hl (fun p hp => World.cell?_of_block (hblk _ hp)) hS (fun _ _ _ h => h)
  refine ⟨⟨hb, fun id o hid => ?_, h.lay.sep, hex⟩, h.size, by rw [hw]; exact h.defers.mono hblk hS, h.young, fun t => ⟨hrv (h.env t).1 (h.env t).2, (h.env t).2⟩⟩
  have ho := h.lay.objs id o hid
  have hy := (h.young id o hid).2
  cases o with
  | box t cells =>
    obtain ⟨g, cs, h1, h2, h3, h4, h5⟩ := ho
    exact ⟨g, cs, h1, by rw [hw]; exact h2, (hown id _ g hid (by rw [h1]; rfl)).trans h3, h4, fun j x av h6 h7 => ⟨hrv (h5 j x av h6 h7).1 (ltL_iff.1 hy _ (List.mem_of_getElem? h7)), (h5 j x av h6 h7).2⟩⟩
  | row e sz rows =>
    obtain ⟨h1, xs, hown', h2, h3⟩ := ho
    refine ⟨h1, xs, ⟨hown'.1, ?_⟩, h2, fun i j row av ha hb => ?_⟩
    · rcases hown'.2 with hn | ⟨g, cap, cur, h4, hb, hh, rest⟩
      · exact .inl hn
      · exact .inr ⟨g, cap, cur, h4, by rw [hw]; exact hb, (hown id _ g hid (by rw [h4]; rfl)).trans hh, rest⟩
    · obtain ⟨x, hx, hr⟩ := h3 i j row av ha hb
      exact ⟨x, hx, hr.mono (fun p hp => World.cell?_of_block (hblk _ hp)) hS⟩
def Cx.ex (c : Cx) (M : Nat → Prop) : Cx := ⟨c.F, c.w0, fun b => c.X b ∨ M b⟩
def JAt (cx : Cx) (a0 : Act) (l : Nat) (r : Loop) (I : ASt → Prop) (T M : Nat → Prop) (W : World) : Prop :=
  ∃ st L, I st ∧ Conc (cx.ex M) a0 W st L ∧ W.heap[l]? = some (.loop r) ∧ Sx (cx.ex M) W st.tab L l ∧ ¬ T l ∧ (∀ b, M b → T b ∧ cx.w0.heap.size ≤ b) ∧ ∀ b, T b → Sx cx W st.tab L b
theorem sx_new (h : Conc cx a w st L) {b : Nat} (h1 : w.heap.size ≤ b) (h2 : b < w'.heap.size) : Sx cx w' st.tab L b :=
  ⟨h2, ⟨.inr (Nat.le_trans h.lay.below.size h1), fun hX => absurd (h.lay.ex b hX).1 (Nat.not_lt.2 h1)⟩, fun id o hid hg => absurd ((h.lay.objs id o hid).ge hg).2 (by omega)⟩
theorem JAt.step {a0 : Act} {l : Nat} {r : Loop} {I : ASt → Prop} {T M M' : Nat → Prop} (h : JAt cx a0 l r I T M w) (hb : BelowX M w.heap.size w w') (hM : ∀ b, M' b → M b ∨ (w.heap.size ≤ b ∧ b < w'.heap.size)) : JAt cx a0 l r I (grow T w w') M' w' := by
  obtain ⟨st, L, h1, h2, h3, h4, h5, h6, h7⟩ := h
  have hsz : cx.w0.heap.size ≤ w.heap.size := h2.lay.below.size
  have hS : ∀ b, Sx (cx.ex M) w st.tab L b → Sx (cx.ex M') w' st.tab L b := fun b hs => ⟨Nat.lt_of_lt_of_le hs.1 hb.size, ⟨hs.2.1.1, fun hx => by
    rcases hx with hx | hx
    · exact hs.2.1.2 (.inl hx)
    · rcases hM b hx with hm | hm
      · exact hs.2.1.2 (.inr hm)
      · have := hs.1
        omega⟩, hs.2.2⟩
  have hblk : ∀ b, Sx (cx.ex M) w st.tab L b → w'.heap[b]? = w.heap[b]? := fun b hs => hb.block b hs.1 fun hm => hs.2.1.2 (.inr hm)
  have hex : ∀ b, (cx.ex M').X b → b < w'.heap.size ∧ ∀ id o, st.tab.get id = some o → vblk (L id) ≠ some b := fun b hx => by
    have old : (cx.ex M).X b → b < w'.heap.size ∧ ∀ id o, st.tab.get id = some o → vblk (L id) ≠ some b := fun hx => ⟨Nat.lt_of_lt_of_le (h2.lay.ex b hx).1 hb.size, (h2.lay.ex b hx).2⟩
    rcases hx with hx | hx
    · exact old (.inl hx)
    · rcases hM b hx with hm | hm
      · exact old (.inr hm)
      · exact ⟨hm.2, fun id o hid hg => absurd ((h2.lay.objs id o hid).ge hg).2 (by omega)⟩
  have hbel : BelowX (cx.ex M').X (cx.ex M').w0.heap.size (cx.ex M').w0 w' := by
    have h8 : BelowX (cx.ex M).X cx.w0.heap.size cx.w0 w := h2.lay.below
    refine ⟨hb.os.trans h8.os, hb.tape.trans h8.tape, hb.output.trans h8.output, Nat.le_trans h8.size hb.size, fun k (hk : k < cx.w0.heap.size) hx => ?_⟩
    have hm : ¬ M k := fun hm => by
      have := (h6 k hm).2
      omega
    refine (hb.block k (by omega) hm).trans (h8.block k hk fun hx' => ?_)
    rcases hx' with hx' | hx'
    · exact hx (.inl hx')
    · exact hm hx'
  refine ⟨st, L, h1, conc_move h2 rfl hblk (fun id o g hid hg => hb.block g ((h2.lay.objs id o hid).ge hg).2 fun hm => (h2.lay.ex g (.inr hm)).2 id o hid hg) hS hbel hex, (hblk l h4).trans h3, hS l h4, fun hg => ?_, fun b hm => ?_, fun b hg => ?_⟩
  · rcases hg with hg | hg
    · exact h5 hg
    · have := h4.1
      omega
  · rcases hM b hm with hm | hm
    · exact ⟨.inl (h6 b hm).1, (h6 b hm).2⟩
    · exact ⟨.inr hm, by omega⟩
  · rcases hg with hg | hg
    · exact ⟨Nat.lt_of_lt_of_le (h7 b hg).1 hb.size, (h7 b hg).2.1, (h7 b hg).2.2⟩
    · have := sx_new h2 hg.1 hg.2
      exact ⟨this.1, ⟨this.2.1.1, fun hx => this.2.1.2 (.inl hx)⟩, this.2.2⟩
end
end
section
open Go.RowKit

/-- a variable's part that holds no slice, seen as a slice of the call's own that is empty -/
theorem weak_nilbox {st : ASt} (id j e sz : Nat) {t : TypeId} {cells : List AV} (hid : st.tab.get id = some (.box t cells)) (hj : cells[j]? = some (.c (.slice none 0 0))) :
    Weak st ⟨st.n, st.env, (id, some (.box t (cells.set j (.osl st.next)))) :: (st.next, some (.row e sz [])) :: st.tab, st.next + 1⟩ := by
  intro cx a w L h
  have hc1 := conc_new (ob := .row e sz []) (v := .slice none 0 0) (x := .slice none 0 0) (av := .any) h (Below.refl _ _) (fun g hg => by simp [vblk] at hg) (fun hext => ⟨by simp, [], ownsR_nil .., by simp, by simp⟩) trivial (fun hext => .tree (.any _)) trivial none
  have hlt := (h.young id _ hid).1
  have hget1 : ATab.get ((st.next, some (.row e sz [])) :: st.tab) id = some (.box t cells) := by rw [ATab.get_cons, if_neg (by omega)]; exact hid
  generalize hL1 : updL L st.next (.slice none 0 0) = L1 at hc1
  generalize ht1 : (st.next, some (AObj.row e sz [])) :: st.tab = tab1 at hc1 hget1 ⊢
  have hc1 : Conc cx a w ⟨st.n, st.env, tab1, st.next + 1⟩ L1 := hc1
  have hnew : ATab.get tab1 st.next = some (.row e sz []) := by rw [← ht1, ATab.get_cons, if_pos rfl]
  have hLn : L1 st.next = .slice none 0 0 := by rw [← hL1]; simp [updL]
  have hget : ∀ k o, ATab.get ((id, some (.box t (cells.set j (.osl st.next)))) :: tab1) k = some o → ∃ o', ATab.get tab1 k = some o' ∧ o.sz = o'.sz := fun k o hk => by
    rw [ATab.get_cons] at hk
    split at hk
    · rename_i e1
      cases hk
      exact ⟨_, by rw [e1]; exact hget1, by simp [AObj.sz]⟩
    · exact ⟨o, hk, rfl⟩
  have hS1 : ∀ b, Sx cx w tab1 L1 b → Sx cx w ((id, some (.box t (cells.set j (.osl st.next)))) :: tab1) L1 b := fun b hb => ⟨hb.1, hb.2.1, fun k o hk => by
    obtain ⟨o', h1, _⟩ := hget k o hk
    exact hb.2.2 k o' h1⟩
  have hK : ∀ k p, Kx ((id, some (.box t (cells.set j (.osl st.next)))) :: tab1) L1 k = some p → Kx tab1 L1 k = some p := fun k p hk => by
    unfold Kx at *
    cases ho : ATab.get ((id, some (.box t (cells.set j (.osl st.next)))) :: tab1) k with
    | none => simp [ho] at hk
    | some o =>
      obtain ⟨o', h1, h2⟩ := hget k o ho
      rw [h1]
      simpa [ho, h2] using hk
  have hrv : ∀ {x av}, RVx cx w tab1 L1 x av → av.lt (st.next + 1) → RVx cx w ((id, some (.box t (cells.set j (.osl st.next)))) :: tab1) L1 x av := fun hr hl => hr.mono hl (fun _ _ => rfl) hS1 fun k p _ hk => hK k p hk
  refine ⟨L1, ⟨⟨hc1.lay.below, fun k o hk => ?_, fun k k' o o' g h1 h2 => ?_, fun b hb => ⟨(hc1.lay.ex b hb).1, fun k o hk => by
    obtain ⟨o', h1, _⟩ := hget k o hk
    exact (hc1.lay.ex b hb).2 k o' h1⟩⟩, hc1.size, hc1.defers.mono (fun _ _ => rfl) hS1, fun k o hk => ?_, fun t => ⟨hrv (hc1.env t).1 (hc1.env t).2, (hc1.env t).2⟩⟩, fun b hb => hS1 b ?_⟩
  · rw [ATab.get_cons] at hk
    split at hk
    · rename_i e1
      cases hk
      subst e1
      obtain ⟨g, cs, h1, h2, h3, h4, h5⟩ := hc1.lay.objs _ _ hget1
      refine ⟨g, cs, h1, h2, h3, by simpa using h4, fun i x av h6 h7 => ?_⟩
      rw [List.getElem?_set] at h7
      split at h7
      · rename_i e2
        subst e2
        split at h7
        · cases h7
          have h8 := h5 j x _ h6 hj
          refine ⟨.osl x _ fun sz' v hk => ?_, h8.2⟩
          have hk := hK _ _ hk
          unfold Kx at hk
          rw [hnew] at hk
          simp at hk
          rw [h8.1.c_inv, ← hk.2, hLn]
        · cases h7
      · have h8 := h5 i x av h6 h7
        exact ⟨hrv h8.1 (ltL_iff.1 (hc1.young _ _ hget1).2 _ (List.mem_of_getElem? h7)), h8.2⟩
    · have ho := hc1.lay.objs k o hk
      have hy := (hc1.young k o hk).2
      cases o with
      | box t' cells' =>
        obtain ⟨g, cs, h1, h2, h3, h4, h5⟩ := ho
        exact ⟨g, cs, h1, h2, h3, h4, fun i x av h6 h7 => ⟨hrv (h5 i x av h6 h7).1 (ltL_iff.1 hy _ (List.mem_of_getElem? h7)), (h5 i x av h6 h7).2⟩⟩
      | row e' sz' rows' =>
        obtain ⟨h1, xs, h2, h3, h4⟩ := ho
        refine ⟨h1, xs, h2, h3, fun i j row av h5 h6 => ?_⟩
        obtain ⟨x, hx, hr⟩ := h4 i j row av h5 h6
        exact ⟨x, hx, hr.mono (fun _ _ => rfl) hS1⟩
  · obtain ⟨o1, h3, _⟩ := hget k o h1
    obtain ⟨o2, h4, _⟩ := hget k' o' h2
    exact hc1.lay.sep k k' o1 o2 g h3 h4
  · rw [ATab.get_cons] at hk
    split at hk
    · rename_i e1
      cases hk
      have hy := hc1.young id _ hget1
      refine ⟨by rw [e1]; exact hy.1, ltL_iff.2 fun x hx => ?_⟩
      rcases List.mem_or_eq_of_mem_set hx with hx | rfl
      · exact ltL_iff.1 hy.2 x hx
      · exact Nat.lt_succ_self _
    · exact hc1.young k o hk
  · refine ⟨hb.1, hb.2.1, fun k o hk hg => ?_⟩
    rw [← ht1, ATab.get_cons] at hk
    rw [← hL1] at hg
    unfold updL at hg
    split at hk
    · rename_i e1
      rw [if_pos e1] at hg
      simp [vblk] at hg
    · rename_i e1
      rw [if_neg e1] at hg
      exact hb.2.2 k o hk hg
end
section
open Go.RowKit
theorem firstI_nat (n : Nat) : firstI (n : Int) = ((2 ^ (min n 31) - 1 : Nat) : Int) := by
  have h1 : (max 0 (min (n : Int) 31)).toNat = min n 31 := by omega
  have h2 : 0 < 2 ^ (min n 31) := Nat.two_pow_pos _
  unfold firstI
  rw [h1]
  generalize min n 31 = k at *
  have : ((2 ^ k : Nat) : Int) = (2 : Int) ^ k := by simp
  omega
theorem ofB_bits (s : Int) (n : Nat) (hs : 0 ≤ s ∧ s < 2147483648) : ofB s (n : Int) = true ↔ ∀ i : Nat, n ≤ i → i < 31 → hasB s (i : Int) = false := by
  obtain ⟨q, rfl⟩ : ∃ q : Nat, s = (q : Int) := ⟨s.toNat, by omega⟩
  have hq : q < 2 ^ 31 := by omega
  have hl : low (q : Int) = q := by
    simp only [low]
    omega
  unfold ofB
  rw [firstI_nat]
  have h2 : 0 < 2 ^ (min n 31) := Nat.two_pow_pos _
  constructor
  · intro h i h3 h4
    simp at h
    have hlt : q < 2 ^ (min n 31) := by omega
    rw [hasB_low _ _ h4, hl]
    refine Nat.testBit_lt_two_pow (Nat.lt_of_lt_of_le hlt ?_)
    exact Nat.pow_le_pow_right (by omega) (by omega)
  · intro h
    have hlt : q < 2 ^ (min n 31) := by
      refine Nat.lt_pow_two_of_testBit _ fun i hi => ?_
      by_cases h31 : i < 31
      · have := h i (by omega) h31
        rwa [hasB_low _ _ h31, hl] at this
      · refine Nat.testBit_lt_two_pow (Nat.lt_of_lt_of_le hq ?_)
        exact Nat.pow_le_pow_right (by omega) (by omega)
    simp
    omega
theorem firstI_31 (n : Nat) : firstI (n : Int) < 2147483648 := by
  rw [firstI_nat]
  have : 2 ^ (min n 31) ≤ 2 ^ 31 := Nat.pow_le_pow_right (by omega) (by omega)
  have h2 : 0 < 2 ^ (min n 31) := Nat.two_pow_pos _
  omega
theorem ofB_31 {s : Int} {n : Nat} (h : ofB s (n : Int) = true) : in31 s := by
  unfold ofB at h
  simp at h
  have := firstI_31 n
  unfold in31
  omega
set_option maxRecDepth 100000 in
theorem within_A (s : Int) (n : Nat) (hs : ok64 s) : ADet Tryz.prog 41 [eI s, eI (n : Int)] (val (.bool (ofB s (n : Int)))) := by
  refine adet_of_code mixedT Tryz.func41 rfl (by decide) Tryz.ntmps41 Tryz.results41 rfl (val_ok _) ?_
  (repeat' (first | simp (maxSteps := 5000000) (implicitDefEqProofs := false) only [ruA, ruB, aEv, ASt.put, envOf] | (with_reducible refine aIf_split (fun _ => ?_) (fun _ => ?_)) | (with_reducible refine aSel_split (fun _ => ?_) (fun _ => ?_)) | (with_reducible refine aGd_split (fun _ => ?_) (fun _ => ?_))))
  refine aLoop_of (fun st => ∃ k : Nat, k ≤ 31 ∧ (∀ i : Nat, n ≤ i → i < k → hasB s (i : Int) = false) ∧ st = ⟨24, [(0, eI s), (1, eI (n : Int)), (5, eI (k : Int))], [], 0⟩) (fun st => 31 - slotN st 5) ⟨_, (weak_cut1 (by (first | ((simp only [envIn, tabIn, envLt, tabLt, AV.lt, ruW, ASt.get, aget, ↓reduceIte, reduceCtorEq, Nat.reduceLT, Nat.reduceEqDiff, eq_self]) <;> (repeat' apply And.intro) <;> first | (rw [wrapK (by omega)]; done) | (simp; done) | omega) | fail))), 0, Nat.zero_le _, by simp, rfl⟩ ?_
  rintro _ ⟨k, hk, hI, rfl⟩
  by_cases hlt : k < 31
  · have h31 : (k : Int) < 31 := by omega
    (repeat' (first | simp (maxSteps := 5000000) (implicitDefEqProofs := false) only [ruA, ruB, aEv, aBin, bin2, ASt.get, aget, ASt.put, aResL, aOne, ↓reduceIte, reduceCtorEq, Nat.reduceLT, Nat.reduceEqDiff, eq_self, h31] | (with_reducible refine aIf_split (fun _ => ?_) (fun _ => ?_)) | (with_reducible refine aSel_split (fun _ => ?_) (fun _ => ?_)) | (with_reducible refine aGd_split (fun _ => ?_) (fun _ => ?_)) | (with_reducible refine aDraw_quiet (by kernel_rfl) ?_) | ((with_reducible apply callV (g := 69)); exact (hasR_A _ _ hs)) | ((with_reducible apply callD (g := 69)); exact (hasR_A _ _ hs))))
    all_goals first
      | (rename_i h1 h2
         simp at h1
         symm
         rw [Bool.eq_false_iff]
         intro hof
         have := (ofB_bits s n (ofB_31 hof)).1 hof k (by omega) hlt
         rw [this] at h2
         cases h2)
      | (rename_i h1 h2
         simp at h1
         refine roundI (weak_cut1 (by (first | ((simp only [envIn, tabIn, envLt, tabLt, AV.lt, ruW, ASt.get, aget, ↓reduceIte, reduceCtorEq, Nat.reduceLT, Nat.reduceEqDiff, eq_self]) <;> (repeat' apply And.intro) <;> first | (rw [wrapK (by omega)]; done) | (simp; done) | omega) | fail))) ⟨k + 1, by omega, fun i hi hi2 => ?_, rfl⟩ (by simp only [slotN, ruW, ASt.get, aget, ↓reduceIte, Nat.reduceLT, Nat.reduceEqDiff, eq_self]; omega)
         rcases Nat.lt_or_ge i k with h3 | h3
         · exact hI i hi h3
         · obtain rfl : i = k := by omega
           exact h2)
      | (rename_i h1
         simp at h1
         refine roundI (weak_cut1 (by (first | ((simp only [envIn, tabIn, envLt, tabLt, AV.lt, ruW, ASt.get, aget, ↓reduceIte, reduceCtorEq, Nat.reduceLT, Nat.reduceEqDiff, eq_self]) <;> (repeat' apply And.intro) <;> first | (rw [wrapK (by omega)]; done) | (simp; done) | omega) | fail))) ⟨k + 1, by omega, fun i hi hi2 => ?_, rfl⟩ (by simp only [slotN, ruW, ASt.get, aget, ↓reduceIte, Nat.reduceLT, Nat.reduceEqDiff, eq_self]; omega)
         exact hI i hi (by omega))
      | trace_state
  · obtain rfl : k = 31 := by omega
    have h31 : (((31 : Nat) : Int) < 31) = False := by simp
    (repeat' (first | simp (maxSteps := 5000000) (implicitDefEqProofs := false) only [ruA, ruB, aEv, aBin, bin2, ASt.get, aget, ASt.put, aResL, aOne, ↓reduceIte, reduceCtorEq, Nat.reduceLT, Nat.reduceEqDiff, eq_self, h31] | (with_reducible refine aIf_split (fun _ => ?_) (fun _ => ?_)) | (with_reducible refine aSel_split (fun _ => ?_) (fun _ => ?_)) | (with_reducible refine aGd_split (fun _ => ?_) (fun _ => ?_)) | (with_reducible refine aDraw_quiet (by kernel_rfl) ?_)))
    · rename_i h1
      simp at h1
      by_cases h2 : s ≤ 2147483647
      · rw [(ofB_bits s n ⟨h1, by omega⟩).2 hI]
        simp [h2]
      · have h3 : ofB s (n : Int) = false := by
          rw [Bool.eq_false_iff]
          intro hof
          have := ofB_31 hof
          unfold in31 at this
          omega
        rw [h3]
        simp [h2]
    · rename_i h1
      simp at h1
      symm
      rw [Bool.eq_false_iff]
      intro hof
      have := ofB_31 hof
      unfold in31 at this
      omega
set_option maxRecDepth 100000 in
set_option maxHeartbeats 8000000 in
theorem checkR_A (m : Mod) (s : St) (hl : m.events.length ≤ 1000000) (ho : ok64 s.opn) (hd : ok64 s.don) (hdid : ∀ x ∈ s.did, ok64 x) : ADet Tryz.prog 18 [.agg (eMod m), .agg (eSt s)] (val (.bool (chkS m s))) := by
  refine adet_of_code mixedT Tryz.func18 rfl (by decide) Tryz.ntmps18 Tryz.results18 rfl (val_ok _) ?_
  by_cases hsz : s.vals.length = m.attrs.length ∧ s.did.length = m.events.length ∧ s.cnt.length = m.events.length
  · obtain ⟨h1, h2, h3⟩ := hsz
    have n1 : (((s.vals.length : Nat) : Int) != ((m.attrs.length : Nat) : Int)) = false := by simp [h1]
    have n2 : (((s.did.length : Nat) : Int) != ((m.events.length : Nat) : Int)) = false := by simp [h2]
    have n3 : (((s.cnt.length : Nat) : Int) != ((m.events.length : Nat) : Int)) = false := by simp [h3]
    have hall : chkS m s = (ofB s.opn m.stages.length && ofB s.don m.miles.length && allN (chkAt m s) m.events.length) := by simp [chkS, h1, h2, h3]
    rw [hall]
    obtain ⟨f, hf⟩ : ∃ f, f = chkAt m s := ⟨_, rfl⟩
    rw [← hf]
    have e0 : allN f 0 = true := rfl
    have loop : ∀ (b0 : Bool) (k : Nat), k < m.events.length → ∀ b, (b0 && allN f k) = b → (b0 && allN f (k + 1)) = (b && f k) := fun b0 k hk b hb => by
      rw [← hb]
      simp [allN, Bool.and_assoc]
    (repeat' (first | simp (maxSteps := 5000000) (implicitDefEqProofs := false) only [ruA, ruB, aEv, aTake, aLoad, aField, aLen, aBin, bin2, ASt.get, aget, ASt.put, aBox, aCells, oneC, oneCL, Value.oneCell', envOf, ↓reduceIte, reduceCtorEq, Nat.reduceLT, Nat.reduceEqDiff, Nat.reduceAdd, Nat.reduceLeDiff, eq_self, ne_eq, tyF_32_5, tyA_26, tyS_26, tyE_26, tyF_35_0, tyA_23, tyS_23, tyE_23, tyF_32_0, tyA_22, tyS_22, tyE_22, tyF_35_3, tyA_33, tyS_33, tyE_33, tyF_35_4, tyF_35_1, tyA_3, tyS_3, tyF_32_4, tyA_25, tyS_25, tyE_25, tyF_35_2, tyF_32_7, tyA_28, tyS_28, tyE_28, n1, n2, n3] | (with_reducible refine aIf_split (fun _ => ?_) (fun _ => ?_)) | (with_reducible refine aSel_split (fun _ => ?_) (fun _ => ?_)) | (with_reducible refine aGd_split (fun _ => ?_) (fun _ => ?_)) | (with_reducible refine aDraw_quiet (by kernel_rfl) ?_) | ((with_reducible apply callV (g := 41)); exact (within_A _ _ ho)) | ((with_reducible apply callD (g := 41)); exact (within_A _ _ ho)) | ((with_reducible apply callV (g := 41)); exact (within_A _ _ hd)) | ((with_reducible apply callD (g := 41)); exact (within_A _ _ hd))))
    · rename_i h
      rw [h, Bool.true_and]
      obtain ⟨b0, hb0⟩ : ∃ b, ofB s.don m.miles.length = b := ⟨_, rfl⟩
      rw [hb0]
      refine aLoop_of (fun st => ∃ k : Nat, k ≤ m.events.length ∧ st = ⟨86, [(2, .op 0 0 0), (3, .op 1 0 0), (5, eI (m.events.length : Int)), (6, eB (b0 && allN f k)), (7, eI (k : Int))], [(0, some (.box 32 (eMod m))), (1, some (.box 35 (eSt s)))], 2⟩) (fun st => m.events.length - slotN st 7) ⟨_, (weak_cut1 (by (first | ((simp only [envIn, tabIn, envLt, tabLt, AObj.lt, AV.lt, AV.ltL, ruW, ASt.get, aget, ↓reduceIte, reduceCtorEq, Nat.reduceLT, Nat.reduceEqDiff, eq_self, e0, Bool.and_true]) <;> (repeat' apply And.intro) <;> first | (rw [wrapK (by omega)]; done) | (simp; done) | omega) | fail))), 0, Nat.zero_le _, rfl⟩ ?_
      rintro _ ⟨k, hk, rfl⟩
      by_cases hlt : k < m.events.length
      · have hd' : k < s.did.length := by omega
        have hc : k < s.cnt.length := by omega
        have eF : f k = (ofB s.did[k] m.users.length && decide (0 ≤ s.cnt[k]) && decide (s.cnt[k] ≤ m.events[k].times)) := by rw [hf]; simp [chkAt, hd', hc, hlt]
        have hs := loop b0 k hlt
        obtain ⟨b, hb⟩ : ∃ b, (b0 && allN f k) = b := ⟨_, rfl⟩
        have hs := hs b hb
        rw [hb]
        (repeat' (first | simp (maxSteps := 5000000) (implicitDefEqProofs := false) only [ruA, ruB, aEv, aTake, aLoad, aField, aIndex, aLen, aBin, bin2, ASt.get, aget, ASt.put, ↓reduceIte, reduceCtorEq, Nat.reduceLT, Nat.reduceEqDiff, Nat.reduceAdd, Nat.reduceLeDiff, eq_self, ne_eq, dref, tyF_32_5, tyA_26, tyS_26, tyE_26, tyA_22, tyS_22, tyE_22, tyF_35_3, tyA_33, tyS_33, tyE_33, tyF_35_4, tyA_3, tyS_3, tyF_32_2, tyF_56_4, row_at, hlt, hd', hc] | (with_reducible refine aIf_split (fun _ => ?_) (fun _ => ?_)) | (with_reducible refine aSel_split (fun _ => ?_) (fun _ => ?_)) | (with_reducible refine aGd_split (fun _ => ?_) (fun _ => ?_)) | (with_reducible refine aDraw_quiet (by kernel_rfl) ?_) | ((with_reducible apply callV (g := 41)); exact (within_A _ _ (hdid _ (List.getElem_mem hd')))) | ((with_reducible apply callD (g := 41)); exact (within_A _ _ (hdid _ (List.getElem_mem hd'))))))
        · have hv : (b0 && allN f (k + 1)) = decide (s.cnt[k] ≤ m.events[k].times) := by grind
          exact roundI (weak_cut1 (by (first | ((simp only [envIn, tabIn, envLt, tabLt, AObj.lt, AV.lt, AV.ltL, ruW, ASt.get, aget, ↓reduceIte, Nat.reduceLT, Nat.reduceEqDiff, eq_self, hv]) <;> (repeat' apply And.intro) <;> first | (rw [wrapK (by omega)]; done) | (simp; done) | omega) | fail))) ⟨k + 1, by omega, rfl⟩ (by simp only [slotN, ruW, ASt.get, aget, ↓reduceIte, Nat.reduceLT, Nat.reduceEqDiff, eq_self]; omega)
        all_goals
          have hv : (b0 && allN f (k + 1)) = false := by grind
          exact roundI (weak_cut1 (by (first | ((simp only [envIn, tabIn, envLt, tabLt, AObj.lt, AV.lt, AV.ltL, ruW, ASt.get, aget, ↓reduceIte, Nat.reduceLT, Nat.reduceEqDiff, eq_self, hv]) <;> (repeat' apply And.intro) <;> first | (rw [wrapK (by omega)]; done) | (simp; done) | omega) | fail))) ⟨k + 1, by omega, rfl⟩ (by simp only [slotN, ruW, ASt.get, aget, ↓reduceIte, Nat.reduceLT, Nat.reduceEqDiff, eq_self]; omega)
      · obtain rfl : k = m.events.length := by omega
        (repeat' (first | simp (maxSteps := 5000000) (implicitDefEqProofs := false) only [ruA, ruB, aEv, aBin, bin2, ASt.get, aget, ASt.put, aResL, aOne, ↓reduceIte, Nat.reduceLT, Nat.reduceEqDiff, eq_self, hlt] | (with_reducible refine aIf_split (fun _ => ?_) (fun _ => ?_)) | (with_reducible refine aSel_split (fun _ => ?_) (fun _ => ?_)) | (with_reducible refine aGd_split (fun _ => ?_) (fun _ => ?_)) | (with_reducible refine aDraw_quiet (by kernel_rfl) ?_)))
    · rename_i h
      rw [h]
      refine aLoop_of (fun st => ∃ k : Nat, k ≤ m.events.length ∧ st = ⟨86, [(2, .op 0 0 0), (3, .op 1 0 0), (5, eI (m.events.length : Int)), (6, eB false), (7, eI (k : Int))], [(0, some (.box 32 (eMod m))), (1, some (.box 35 (eSt s)))], 2⟩) (fun st => m.events.length - slotN st 7) ⟨_, (weak_cut1 (by (first | ((simp only [envIn, tabIn, envLt, tabLt, AObj.lt, AV.lt, AV.ltL, ruW, ASt.get, aget, ↓reduceIte, reduceCtorEq, Nat.reduceLT, Nat.reduceEqDiff, eq_self]) <;> (repeat' apply And.intro) <;> first | (rw [wrapK (by omega)]; done) | (simp; done) | omega) | fail))), 0, Nat.zero_le _, rfl⟩ ?_
      rintro _ ⟨k, hk, rfl⟩
      by_cases hlt : k < m.events.length
      · (repeat' (first | simp (maxSteps := 5000000) (implicitDefEqProofs := false) only [ruA, ruB, aEv, aBin, bin2, ASt.get, aget, ASt.put, ↓reduceIte, Nat.reduceLT, Nat.reduceEqDiff, eq_self, hlt] | (with_reducible refine aIf_split (fun _ => ?_) (fun _ => ?_)) | (with_reducible refine aSel_split (fun _ => ?_) (fun _ => ?_)) | (with_reducible refine aGd_split (fun _ => ?_) (fun _ => ?_)) | (with_reducible refine aDraw_quiet (by kernel_rfl) ?_)))
        all_goals first
          | exact roundI (weak_cut1 (by (first | ((simp only [envIn, tabIn, envLt, tabLt, AObj.lt, AV.lt, AV.ltL, ruW, ASt.get, aget, ↓reduceIte, Nat.reduceLT, Nat.reduceEqDiff, eq_self]) <;> (repeat' apply And.intro) <;> first | (rw [wrapK (by omega)]; done) | (simp; done) | omega) | fail))) ⟨k + 1, by omega, rfl⟩ (by simp only [slotN, ruW, ASt.get, aget, ↓reduceIte, Nat.reduceLT, Nat.reduceEqDiff, eq_self]; omega)
          | trace_state
      · obtain rfl : k = m.events.length := by omega
        (repeat' (first | simp (maxSteps := 5000000) (implicitDefEqProofs := false) only [ruA, ruB, aEv, aBin, bin2, ASt.get, aget, ASt.put, aResL, aOne, ↓reduceIte, Nat.reduceLT, Nat.reduceEqDiff, eq_self, hlt] | (with_reducible refine aIf_split (fun _ => ?_) (fun _ => ?_)) | (with_reducible refine aSel_split (fun _ => ?_) (fun _ => ?_)) | (with_reducible refine aGd_split (fun _ => ?_) (fun _ => ?_)) | (with_reducible refine aDraw_quiet (by kernel_rfl) ?_)))
        simp
  · have hall : chkS m s = false := by
      unfold chkS
      rw [Bool.eq_false_iff]
      simp only [ne_eq, Bool.and_eq_true, decide_eq_true_eq]
      grind
    rw [hall]
    (repeat' (first | simp (maxSteps := 5000000) (implicitDefEqProofs := false) only [ruA, ruB, aEv, aTake, aLoad, aField, aLen, aBin, bin2, ASt.get, aget, ASt.put, aBox, aCells, oneC, oneCL, Value.oneCell', envOf, aResL, aOne, ↓reduceIte, reduceCtorEq, Nat.reduceLT, Nat.reduceEqDiff, Nat.reduceAdd, Nat.reduceLeDiff, eq_self, ne_eq, tyF_32_5, tyA_26, tyS_26, tyE_26, tyF_35_0, tyA_23, tyS_23, tyE_23, tyF_32_0, tyA_22, tyS_22, tyE_22, tyF_35_3, tyA_33, tyS_33, tyE_33, tyF_35_4, tyF_35_1, tyA_3, tyS_3, tyF_32_4, tyA_25, tyS_25, tyE_25] | (with_reducible refine aIf_split (fun _ => ?_) (fun _ => ?_)) | (with_reducible refine aSel_split (fun _ => ?_) (fun _ => ?_)) | (with_reducible refine aGd_split (fun _ => ?_) (fun _ => ?_)) | (with_reducible refine aDraw_quiet (by kernel_rfl) ?_)))
    all_goals first
      | rfl
      | (exfalso; grind)
      | trace_state
end
section
open Go.RowKit
theorem cloneI_A (l : List Int) (hl : l.length ≤ 1000000) : ADet Tryz.prog 26 [sI l] ⟨sI l, [], 0⟩ := by
  refine adet_own_nil (e := 3) ?_
  refine arel_of_code mixedT Tryz.func26 rfl (by decide) Tryz.ntmps26 Tryz.results26 rfl ?_
  (repeat' (first | simp (maxSteps := 5000000) (implicitDefEqProofs := false) only [ruA, aEv, aBin, ASt.get, aget, ASt.put, envOf, ↓reduceIte, reduceCtorEq, Nat.reduceLT, eq_self, aNilS, tyK_33] | (with_reducible refine aIf_split (fun _ => ?_) (fun _ => ?_)) | (with_reducible refine aSel_split (fun _ => ?_) (fun _ => ?_)) | (with_reducible refine aGd_split (fun _ => ?_) (fun _ => ?_))))
  intro c hc
  cases c with
  | true =>
    (repeat' (first | simp (maxSteps := 5000000) (implicitDefEqProofs := false) only [ruA, aEv, ASt.get, aget, ASt.put, aResL, aOne, ↓reduceIte, Nat.reduceLT, eq_self] | (with_reducible refine aIf_split (fun _ => ?_) (fun _ => ?_)) | (with_reducible refine aSel_split (fun _ => ?_) (fun _ => ?_)) | (with_reducible refine aGd_split (fun _ => ?_) (fun _ => ?_))))
    exact retV (.inr ⟨rfl, hc rfl⟩)
  | false =>
    (repeat' (first | simp (maxSteps := 5000000) (implicitDefEqProofs := false) only [ruA, ruB, aEv, ASt.get, aget, ASt.put, aAppend, aBuildSlice, aCells, aLit, aDst, aSrc, appTab, Value.cells, aResL, aOne, ↓reduceIte, reduceCtorEq, Nat.reduceLT, Nat.reduceEqDiff, Nat.reduceAdd, Nat.reduceMul, eq_self, aBuildSlice1, frzs, ownIds, tyR_33] | (with_reducible refine aIf_split (fun _ => ?_) (fun _ => ?_)) | (with_reducible refine aSel_split (fun _ => ?_) (fun _ => ?_)) | (with_reducible refine aGd_split (fun _ => ?_) (fun _ => ?_))))
    exact ⟨rfl, by omega, retO rfl (.inl rfl)⟩
set_option maxRecDepth 100000 in
set_option maxHeartbeats 8000000 in
theorem status_A (zc zg : List (List AV)) (o d : Int) (did cnt : List Int) (h1 : did.length ≤ 1000000) (h2 : cnt.length ≤ 1000000) : ADet Tryz.prog 15 [.agg [.sl 2 zc, .sl 1 zg, eI o, eI d, sI did, sI cnt]] ⟨.agg [.c (.slice none 0 0), eI o, eI d, sI did, sI cnt], [], 0⟩ := by
  have hok : (⟨.agg [.c (.slice none 0 0), eI o, eI d, sI did, sI cnt], [], 0⟩ : Res).Ok := ⟨fun id o h => (by cases h), by simp [AV.lt, AV.ltL]⟩
  refine adet_of_code mixedT Tryz.func15 rfl (by decide) Tryz.ntmps15 Tryz.results15 rfl (hok) ?_
  (repeat' (first | simp (maxSteps := 5000000) (implicitDefEqProofs := false) only [ruA, ruB, aEv, ASt.get, aget, ASt.put, aBox, aCells, oneC, oneCL, Value.cells, Value.oneCell', envOf, ↓reduceIte, Nat.reduceLT, Nat.reduceAdd, eq_self, tyZ_35] | (with_reducible refine aIf_split (fun _ => ?_) (fun _ => ?_)) | (with_reducible refine aSel_split (fun _ => ?_) (fun _ => ?_)) | (with_reducible refine aGd_split (fun _ => ?_) (fun _ => ?_))))
  refine aDraw_held [1] [0, 1, 2, 3, 4, 5, 7, 8] (.exec 6 (.exec 9 (.take 10 (.exec 11 .done)))) (by kernel_rfl) (by simp [ATab.get_cons]) ?_
  (repeat' (first | simp (maxSteps := 5000000) (implicitDefEqProofs := false) only [ruA, ruB, aEv, aTake, aLoad, aField, ASt.get, aget, ASt.put, aBuild, aFill, oneParts, aCells, oneC, oneCL, Value.cells, Value.oneCell', aResL, aOne, ↓reduceIte, reduceCtorEq, Nat.reduceLT, Nat.reduceEqDiff, Nat.reduceAdd, Nat.reduceLeDiff, eq_self, aExecS, aStoreB, aTakes, aTakeE, aFrom, AV.shift, aMay, tyA_35, tyS_35, tyF_43_1, tyA_3, tyS_3, tyF_43_2, tyF_43_3, tyA_33, tyS_33, tyF_43_4, tyB_35] | (with_reducible refine aIf_split (fun _ => ?_) (fun _ => ?_)) | (with_reducible refine aSel_split (fun _ => ?_) (fun _ => ?_)) | (with_reducible refine aGd_split (fun _ => ?_) (fun _ => ?_)) | (with_reducible refine aDraw_quiet (by kernel_rfl) ?_) | ((with_reducible apply callT (g := 26)); exact (cloneI_A did h1); exact (.inl (by simp [roL, roA]))) | ((with_reducible apply callT (g := 26)); exact (cloneI_A cnt h2); exact (.inl (by simp [roL, roA]))) | (with_reducible apply And.intro)))
  all_goals exact gives_tree (by first | rfl | simp [AV.ren, AV.renL])
end
section
def isD (b : Nat) : Bool := decide (48 ≤ b) && decide (b ≤ 57)
def valL (l : List Nat) : Nat := l.foldl (fun n b => n * 10 + (b - 48)) 0
def formedL (l : List Nat) : Bool := !l.isEmpty && l.all isD
/-- the number, and the error's number -/
def signed (neg : Bool) (l : List Nat) : Int × Int :=
  if formedL l = false then (0, 17) else if (if neg = true then 9223372036854775808 else 9223372036854775807) < valL l then (0, 2) else (if neg = true then -(valL l : Int) else (valL l : Int), 0)
end
section
open Go.RowKit

/-- v holds the numbers l -/
def LI (w : World) (v : Value) (l : List Int) : Prop :=
  ∃ A c, v = .slice A l.length c ∧ l.length ≤ c ∧ (0 < l.length → ∃ b o, A = some ⟨b, o, none⟩ ∧ b < w.heap.size ∧ ∀ i (h : i < l.length), w.cell? ⟨b, o + i, none⟩ = some (.int .i64 l[i]))
theorem LI.below {w w' : World} {v : Value} {l : List Int} (h : LI w v l) (hb : Below w.heap.size w w') : LI w' v l := by
  obtain ⟨A, c, rfl, hc, hr⟩ := h
  refine ⟨A, c, rfl, hc, fun hp => ?_⟩
  obtain ⟨b, o, hA, hb1, hcell⟩ := hr hp
  exact ⟨b, o, hA, Nat.lt_of_lt_of_le hb1 hb.size, fun i hi => (hb.cell hb1).trans (hcell i hi)⟩
theorem LI.some_ {w : World} {v : Value} {l : List Int} (h : LI w v l) (hp : 0 < l.length) : ∃ b o c, v = .slice (some ⟨b, o, none⟩) l.length c ∧ l.length ≤ c ∧ b < w.heap.size ∧ ∀ i (h : i < l.length), w.cell? ⟨b, o + i, none⟩ = some (.int .i64 l[i]) := by
  obtain ⟨A, c, rfl, hc, hr⟩ := h
  obtain ⟨b, o, rfl, hb, hcell⟩ := hr hp
  exact ⟨b, o, c, rfl, hc, hb, hcell⟩
theorem LI.at_ {w : World} {A : Option Addr} {c : Nat} {l : List Int} (h : LI w (.slice A l.length c) l) {i : Nat} (hi : i < l.length) : ∃ b o, A = some ⟨b, o, none⟩ ∧ b < w.heap.size ∧ w.cell? ⟨b, o + i, none⟩ = some (.int .i64 l[i]) := by
  obtain ⟨A', c', e, hc, hr⟩ := h
  obtain ⟨rfl, _, rfl⟩ : A = A' ∧ l.length = l.length ∧ c = c' := by simpa using e
  obtain ⟨b, o, rfl, hb, hcell⟩ := hr (by omega)
  exact ⟨b, o, rfl, hb, hcell i hi⟩
end
section
open Go.RowKit
def LN (B : Nat) (w : World) (v : Value) (l : List Int) : Prop :=
  ∃ A c, v = .slice A l.length c ∧ l.length ≤ c ∧ c ≤ 9223372036854775807 ∧ (0 < l.length → ∃ b o, A = some ⟨b, o, none⟩ ∧ B ≤ b ∧ b < w.heap.size ∧ ∀ i (h : i < l.length), w.cell? ⟨b, o + i, none⟩ = some (.int .i64 l[i]))
theorem LN.rt {B : Nat} {w : World} {S : Nat → Prop} {v : Value} {l : List Int} (h : LN B w v l) (hS : ∀ b, B ≤ b → b < w.heap.size → S b) : RT w S v (sI l) := by
  obtain ⟨A, c, rfl, h1, h2, h3⟩ := h
  have key : ∀ (i j : Nat) (row : List AV) (av : AV), (l.map fun n => [eI n])[i]? = some row → row[j]? = some av → ∃ hi : i < l.length, j = 0 ∧ av = eI l[i] := fun i j row av h4 h5 => by
    have hi : i < l.length := by
      have := (List.getElem?_eq_some_iff.1 h4).1
      simpa using this
    rw [List.getElem?_map, List.getElem?_eq_getElem hi] at h4
    cases h4
    match j with
    | 0 => exact ⟨hi, rfl, by simpa using h5.symm⟩
    | j + 1 => simp at h5
  by_cases h0 : 0 < l.length
  · obtain ⟨b, o, rfl, hb, hbs, hcell⟩ := h3 h0
    refine .sl _ _ c 1 _ b o (fun i _ => .int .i64 (l.getD i 0)) (by simp) h1 h2 (fun _ => ⟨rfl, hS b hb hbs⟩) (fun row hr => by obtain ⟨n, _, rfl⟩ := List.mem_map.1 hr; rfl) (fun _ i j row av h4 h5 => ?_) (fun _ _ _ _ _ _ => rfl) (fun i j row av h4 h5 => ?_)
    · obtain ⟨hi, rfl, _⟩ := key i j row av h4 h5
      rw [Nat.mul_one, Nat.add_zero, hcell i hi, List.getD_eq_getElem?_getD, List.getElem?_eq_getElem hi]
      rfl
    · obtain ⟨hi, rfl, rfl⟩ := key i j row av h4 h5
      rw [List.getD_eq_getElem?_getD, List.getElem?_eq_getElem hi]
      exact .c _
  · have : l = [] := List.length_eq_zero_iff.1 (by omega)
    subst this
    exact .sl A 0 c 1 [] 0 0 (fun _ _ => undef) rfl h1 h2 (fun h => by omega) (by simp) (fun h => by omega) (by simp) (by simp)
theorem LI.of_rt {w : World} {S : Nat → Prop} {v : Value} {l : List Int} (h : RT w S v (sI l)) (hS : ∀ b, S b → b < w.heap.size) : LI w v l := by
  obtain ⟨A, cap, rfl, hc, hm, _, hA⟩ := h.sl_inv
  refine ⟨A, cap, by simp, by simpa using hc, fun h0 => ?_⟩
  obtain ⟨b, o, rfl, hb, U, hcell, hr, _⟩ := hA (by simpa using h0)
  refine ⟨b, o, rfl, hS b hb, fun i hi => ?_⟩
  have h1 : (l.map fun n => [eI n])[i]? = some [eI l[i]] := by simp [hi]
  have h2 := hcell i 0 _ _ h1 rfl
  have h3 := rtc (hr i 0 _ _ h1 rfl)
  rw [h3] at h2
  simpa using h2
theorem adet_of_sl {P : Program} {f : FuncId} {args : List AV} {sz : Nat} {rows : List (List AV)} (he : Enters P f)
    (h : ∀ (S : Nat → Prop) (w : World) (vs : Array Value), (∀ b, S b → b < w.heap.size) → vs.size = args.length → (∀ (j : Nat) (v : Value) (av : AV), vs[j]? = some v → args[j]? = some av → RT w S v av) →
      Calls P f vs w fun e w' => ∃ v, e = .returned v ∧ (∀ S', (∀ b, w.heap.size ≤ b → b < w'.heap.size → S' b) → RT w' S' v (.sl sz rows)) ∧ Below w.heap.size w w') : ADet P f args ⟨.sl sz rows, [], 0⟩ :=
  ⟨he, fun S w vs h1 h2 h3 => (h S w vs h1 h2 h3).mono fun e w' ⟨v, h4, h5, h6⟩ => ⟨v, fun _ => undef, ⟨.sl sz rows, [], 0⟩, rfl, ⟨fun id o h => (by cases h), by simp [AV.lt]⟩, h4, ⟨belowX h6, fun id o h => (by cases h), fun id id' o o' g h => (by cases h), fun b hb => hb.elim⟩, .tree (h5 _ fun b hb hb2 => ⟨hb2, ⟨.inr hb, fun hX => hX⟩, fun id o h => (by cases h)⟩)⟩⟩
end
section
def insS (x : Int) (st : List Int × Bool) (y : Int) : List Int × Bool :=
  ((st.1 ++ (if st.2 = false ∧ x ≤ y then [x] else [])) ++ (if y ≠ x then [y] else []), st.2 || decide (x ≤ y))
def insR (x : Int) (l : List Int) : List Int × Bool := l.foldl (insS x) ([], false)
def insP (x : Int) (out : List Int) : List Int := if (insR x out).2 then (insR x out).1 else (insR x out).1 ++ [x]
def sortR (l : List Int) : List Int := l.foldl (fun out x => insP x out) []

theorem insR_snoc (x : Int) (l : List Int) (y : Int) : insR x (l ++ [y]) = insS x (insR x l) y := by simp [insR]
theorem sortR_snoc (l : List Int) (x : Int) : sortR (l ++ [x]) = insP x (sortR l) := by simp [sortR]
theorem snoc_ind {p : List Int → Prop} (h0 : p []) (h1 : ∀ l x, p l → p (l ++ [x])) (l : List Int) : p l := by
  rw [← List.reverse_reverse l]
  induction l.reverse with
  | nil => exact h0
  | cons x r ih => rw [List.reverse_cons]; exact h1 _ _ ih
theorem insR_len (x : Int) (l : List Int) : (insR x l).1.length ≤ l.length + (if (insR x l).2 then 1 else 0) := by
  induction l using snoc_ind with
  | h0 => simp [insR]
  | h1 l y ih =>
    rw [insR_snoc]
    generalize insR x l = st at *
    obtain ⟨n, b⟩ := st
    cases b <;> by_cases h1 : x ≤ y <;> by_cases h2 : y = x <;> simp [insS, h1, h2] at ih ⊢ <;> omega
theorem insP_len (x : Int) (l : List Int) : (insP x l).length ≤ l.length + 1 := by
  have := insR_len x l
  unfold insP
  split <;> rename_i h <;> simp [h] at this ⊢ <;> omega
theorem sortR_len (l : List Int) : (sortR l).length ≤ l.length := by
  induction l using snoc_ind with
  | h0 => simp [sortR]
  | h1 l y ih => rw [sortR_snoc]; have := insP_len y (sortR l); simp; omega

/-- strictly rising -/
def Up (l : List Int) : Prop := l.Pairwise (· < ·)
theorem insR_up (x : Int) (l : List Int) (h : Up l) :
    Up (insR x l).1 ∧ (∀ z, z ∈ (insR x l).1 ↔ z ∈ l ∨ ((insR x l).2 = true ∧ z = x)) ∧ ((insR x l).2 = true ↔ ∃ z ∈ l, x ≤ z) ∧ ((insR x l).2 = true → x ∈ (insR x l).1) := by
  induction l using snoc_ind with
  | h0 => simp [insR, Up]
  | h1 l y ih =>
    have hl : Up l := (List.pairwise_append.1 h).1
    have hy : ∀ z ∈ l, z < y := fun z hz => (List.pairwise_append.1 h).2.2 z hz y (by simp)
    obtain ⟨i1, i2, i3, i4⟩ := ih hl
    rw [insR_snoc]
    generalize insR x l = st at *
    obtain ⟨n, b⟩ := st
    simp only at i1 i2 i3 i4
    cases b with
    | true =>
      obtain ⟨z, hz, hxz⟩ := i3.1 rfl
      have hxy : x < y := by have := hy z hz; omega
      have hne : y ≠ x := by omega
      simp only [insS, Bool.true_or, Bool.true_eq_false, false_and, if_false, List.append_nil, if_pos hne]
      refine ⟨List.pairwise_append.2 ⟨i1, by simp, ?_⟩, ?_, ?_, ?_⟩
      · intro a ha c hc
        rw [List.mem_singleton] at hc; subst hc
        rcases (i2 a).1 ha with h | ⟨_, rfl⟩
        · exact hy a h
        · exact hxy
      · intro a; simp only [List.mem_append, List.mem_singleton, i2]; constructor
        · rintro ((h | h) | h)
          · exact .inl (.inl h)
          · exact .inr h
          · exact .inl (.inr h)
        · rintro ((h | h) | h)
          · exact .inl (.inl h)
          · exact .inr h
          · exact .inl (.inr h)
      · exact ⟨fun _ => ⟨z, by simp [hz], hxz⟩, fun _ => trivial⟩
      · intro _; simp [i4 rfl]
    | false =>
      have hlow : ∀ z ∈ l, z < x := fun z hz => by
        rcases Int.lt_or_le z x with h | h
        · exact h
        · exact absurd (i3.2 ⟨z, hz, h⟩) (by simp)
      have hn : ∀ z, z ∈ n ↔ z ∈ l := fun z => by rw [i2]; simp
      by_cases hxy : x ≤ y
      · by_cases hne : y = x
        · subst hne
          simp only [insS, Int.le_refl, and_self, if_true, ne_eq, not_true, if_false, List.append_nil, decide_true, Bool.or_true]
          refine ⟨List.pairwise_append.2 ⟨i1, by simp, ?_⟩, ?_, ?_, ?_⟩
          · intro a ha c hc
            rw [List.mem_singleton] at hc; subst hc
            exact hy a ((hn a).1 ha)
          · intro a; simp only [List.mem_append, List.mem_singleton, hn]; constructor
            · rintro (h | h)
              · exact .inl (.inl h)
              · exact .inl (.inr h)
            · rintro (h | ⟨_, h⟩)
              · exact h
              · exact .inr h
          · exact ⟨fun _ => ⟨y, by simp, Int.le_refl _⟩, fun _ => trivial⟩
          · intro _; simp
        · simp only [insS, hxy, and_self, if_true, ne_eq, hne, not_false_eq_true, decide_true, Bool.or_true]
          refine ⟨?_, ?_, ?_, ?_⟩
          · unfold Up
            rw [List.append_assoc]
            refine List.pairwise_append.2 ⟨i1, by simp; omega, ?_⟩
            intro a ha c hc
            have hal := (hn a).1 ha
            have h1 := hlow a hal
            have h2 := hy a hal
            simp at hc
            rcases hc with rfl | rfl
            · exact h1
            · exact h2
          · intro a; simp only [List.mem_append, List.mem_singleton, hn]; constructor
            · rintro ((h | h) | h)
              · exact .inl (.inl h)
              · exact .inr ⟨by simp, h⟩
              · exact .inl (.inr h)
            · rintro ((h | h) | ⟨_, h⟩)
              · exact .inl (.inl h)
              · exact .inr h
              · exact .inl (.inr h)
          · exact ⟨fun _ => ⟨y, by simp, hxy⟩, fun _ => trivial⟩
          · intro _; simp
      · have hne : y ≠ x := by omega
        have hd : decide (x ≤ y) = false := decide_eq_false hxy
        simp only [insS, hxy, and_false, if_false, List.append_nil, if_pos hne]
        refine ⟨List.pairwise_append.2 ⟨i1, by simp, ?_⟩, ?_, ?_, ?_⟩
        · intro a ha c hc
          rw [List.mem_singleton] at hc; subst hc
          exact hy a ((hn a).1 ha)
        · intro a; simp only [List.mem_append, List.mem_singleton, hn]; simp
        · constructor
          · intro h; cases h
          · rintro ⟨z, hz, hxz⟩
            rcases List.mem_append.1 hz with h | h
            · have := hlow z h; omega
            · rw [List.mem_singleton] at h; subst h; exact absurd hxz hxy
        · intro h; cases h
theorem insP_up (x : Int) (l : List Int) (h : Up l) : Up (insP x l) ∧ ∀ z, z ∈ insP x l ↔ z ∈ l ∨ z = x := by
  obtain ⟨i1, i2, i3, i4⟩ := insR_up x l h
  unfold insP
  split
  · rename_i hb
    refine ⟨i1, fun z => ?_⟩
    rw [i2]; simp [hb]
  · rename_i hb
    have hlow : ∀ z ∈ l, z < x := fun z hz => by
      rcases Int.lt_or_le z x with h | h
      · exact h
      · exact absurd (i3.2 ⟨z, hz, h⟩) hb
    have hn : ∀ z, z ∈ (insR x l).1 ↔ z ∈ l := fun z => by rw [i2]; simp [hb]
    refine ⟨List.pairwise_append.2 ⟨i1, by simp, ?_⟩, fun z => ?_⟩
    · intro a ha c hc
      rw [List.mem_singleton] at hc; subst hc
      exact hlow a ((hn a).1 ha)
    · simp [hn]
theorem sortR_up (l : List Int) : Up (sortR l) ∧ ∀ z, z ∈ sortR l ↔ z ∈ l := by
  induction l using snoc_ind with
  | h0 => simp [sortR, Up]
  | h1 l x ih =>
    obtain ⟨h1, h2⟩ := insP_up x _ ih.1
    rw [sortR_snoc]
    exact ⟨h1, fun z => by rw [h2, ih.2]; simp⟩
theorem up_ext : ∀ (a b : List Int), Up a → Up b → (∀ z, z ∈ a ↔ z ∈ b) → a = b
  | [], [], _, _, _ => rfl
  | [], y :: b, _, _, h => by have := (h y).2 (by simp); simp at this
  | x :: a, [], _, _, h => by have := (h x).1 (by simp); simp at this
  | x :: a, y :: b, ha, hb, h => by
    have ha' := List.pairwise_cons.1 ha
    have hb' := List.pairwise_cons.1 hb
    have hxy : x = y := by
      rcases List.mem_cons.1 ((h x).1 (by simp)) with h1 | h1
      · exact h1
      · rcases List.mem_cons.1 ((h y).2 (by simp)) with h2 | h2
        · exact h2.symm
        · have := hb'.1 x h1; have := ha'.1 y h2; omega
    subst hxy
    rw [up_ext a b ha'.2 hb'.2 (fun z => ?_)]
    constructor
    · intro hz
      rcases List.mem_cons.1 ((h z).1 (by simp [hz])) with h1 | h1
      · subst h1; have := ha'.1 z hz; omega
      · exact h1
    · intro hz
      rcases List.mem_cons.1 ((h z).2 (by simp [hz])) with h1 | h1
      · subst h1; have := hb'.1 z hz; omega
      · exact h1

/-- the library's way -/
theorem compact_up (d : Array Int) (hs : ∀ i j, i < j → j < d.size → d[i]! ≤ d[j]!) (m : Nat) (hm : m ≤ d.size) :
    Up (Lib.compactUpTo d m) ∧ (∀ z, z ∈ Lib.compactUpTo d m ↔ ∃ i, i < m ∧ d[i]! = z) := by
  induction m with
  | zero => simp [Lib.compactUpTo, Up]
  | succ m ih =>
    obtain ⟨h1, h2⟩ := ih (by omega)
    rw [Lib.compactUpTo_succ]
    by_cases hk : Lib.keeps d m = true
    · rw [if_pos hk]
      refine ⟨List.pairwise_append.2 ⟨h1, by simp, ?_⟩, fun z => ?_⟩
      · intro a ha c hc
        rw [List.mem_singleton] at hc; subst hc
        obtain ⟨i, hi, rfl⟩ := (h2 a).1 ha
        simp only [Lib.keeps, decide_eq_true_eq] at hk
        have h3 := hs (m - 1) m (by omega) (by omega)
        have h4 : d[i]! ≤ d[m - 1]! := by
          rcases Nat.lt_or_ge i (m - 1) with h | h
          · exact hs i (m - 1) h (by omega)
          · rw [show i = m - 1 by omega]; exact Int.le_refl _
        rcases hk with h | h
        · omega
        · have : d[m]! ≠ d[m - 1]! := h
          omega
      · simp only [List.mem_append, List.mem_singleton, h2]
        constructor
        · rintro (⟨i, hi, rfl⟩ | rfl)
          · exact ⟨i, by omega, rfl⟩
          · exact ⟨m, by omega, rfl⟩
        · rintro ⟨i, hi, rfl⟩
          rcases Nat.lt_or_ge i m with h | h
          · exact .inl ⟨i, h, rfl⟩
          · exact .inr (by rw [show i = m by omega])
    · rw [if_neg hk, List.append_nil]
      refine ⟨h1, fun z => ?_⟩
      rw [h2]
      simp only [Lib.keeps, decide_eq_true_eq, not_or, ne_eq, Decidable.not_not] at hk
      constructor
      · rintro ⟨i, hi, rfl⟩; exact ⟨i, by omega, rfl⟩
      · rintro ⟨i, hi, rfl⟩
        rcases Nat.lt_or_ge i m with h | h
        · exact ⟨i, h, rfl⟩
        · exact ⟨m - 1, by omega, by rw [← hk.2, show i = m by omega]⟩
def sortL (l : List Int) : List Int := Lib.compact (l.mergeSort fun x y => decide (x ≤ y))
theorem sortL_eq (l : List Int) : sortL l = sortR l := by
  have hp : (l.mergeSort fun x y => decide (x ≤ y)).Pairwise (fun a b => decide (a ≤ b) = true) := List.pairwise_mergeSort (le := fun x y => decide (x ≤ y)) (fun a b c h1 h2 => by simp at *; omega) (fun a b => by simp; omega) l
  have hm : ∀ z, z ∈ (l.mergeSort fun x y => decide (x ≤ y)) ↔ z ∈ l := fun z => List.mem_mergeSort
  unfold sortL Lib.compact
  generalize (l.mergeSort fun x y => decide (x ≤ y)) = s at *
  have hs : ∀ i j, i < j → j < s.toArray.size → s.toArray[i]! ≤ s.toArray[j]! := by
    intro i j hij hj
    have hj' : j < s.length := by simpa using hj
    have h1 := List.pairwise_iff_getElem.1 hp i j (by omega) hj' hij
    rw [getElem!_pos _ i (by simp; omega), getElem!_pos _ j hj]
    simpa using h1
  obtain ⟨h1, h2⟩ := compact_up s.toArray hs s.length (by simp)
  refine up_ext _ _ h1 (sortR_up l).1 (fun z => ?_)
  rw [h2, (sortR_up l).2, ← hm]
  constructor
  · rintro ⟨i, hi, rfl⟩
    rw [getElem!_pos _ i (by simpa using hi)]
    simp
  · intro hz
    obtain ⟨i, hi, rfl⟩ := List.getElem_of_mem hz
    exact ⟨i, hi, by rw [getElem!_pos _ i (by simpa using hi)]; simp⟩
end
section
open Go.RowKit Go.Sort

theorem i64Info : (Tryz.prog.info? 2).map (fun i => (i.zero, i.size, i.bytes)) = some (some (.int .i64 0), 1, 8) := by kernel_rfl
end
section
open Go.RowKit Go.Sort

theorem compact_len (S : List Int) : (Lib.compact S).length ≤ S.length := by
  unfold Lib.compact Lib.compactUpTo
  rw [List.length_map]
  have := List.length_filter_le (Lib.keeps S.toArray) (List.range S.length)
  simpa using this

/-- the empty ways -/
theorem clone0_any (A : Option Addr) (c : Nat) (w : World) :
    Calls Tryz.prog 90 #[.slice A 0 c] w fun e w' => (∃ A' c', e = .returned (.slice A' 0 c') ∧ c' ≤ 9223372036854775807) ∧ Below w.heap.size w w' := by
  cases A with
  | none => exact (Tryz.slices_Clone_nil 0 c w).mono (by rintro e w' ⟨rfl, rfl⟩; exact ⟨⟨_, _, rfl, by decide⟩, Below.refl _ _⟩)
  | some a =>
    obtain ⟨i0, hi0, hz0, hz1, hz2⟩ := info_parts i64Info
    have q22 : ∀ (w : World) (a : Option Addr) (n c n' c' : Nat), (binOp .eql 23 (.slice a n c) (.slice none n' c')).run Tryz.prog w = .ok (.bool a.isNone) w := fun w a n c n' c' => Lib.run_eql_slice_nil w _ _ a n c n' c' Tryz.underlying23
    go_enter Tryz.func90, Tryz.ntmps90
    go_wp2_with fail
    go_ret
    exact ⟨⟨_, _, rfl, by decide⟩, (Below.refl _ _).alloc (Nat.le_refl _) _⟩
theorem ins0_any (A : Option Addr) (c : Nat) (w : World) :
    Calls Tryz.prog 133 #[.slice A 0 c, .int .i64 0, .int .i64 0] w fun e w' => e = .returned (.tuple #[]) ∧ Below w.heap.size w w' := by
  go_enter Tryz.func133, Tryz.ntmps133
  go_wp2_with fail
  go_loopw [6] (fun i wr => i = .int .i64 1 ∧ Below w.heap.size w wr) (fun i wr => 0)
  case atStart => exact ⟨rfl, Below.refl _ _⟩
  case round =>
    obtain ⟨rfl, hbl⟩ := hrel
    go_wp2_with fail
    go_end0
    exact ⟨rfl, hbl⟩
theorem pdq0_any (A : Option Addr) (c : Nat) (L : Int) (w : World) :
    Calls Tryz.prog 117 #[.slice A 0 c, .int .i64 0, .int .i64 0, .int .i64 L] w fun e w' => e = .returned (.tuple #[]) ∧ Below w.heap.size w w' := by
  go_enter Tryz.func117, Tryz.ntmps117
  go_wp2_with fail
  go_loopw [1, 2] (fun a b wr => a = .int .i64 0 ∧ b = .int .i64 0 ∧ Below w.heap.size w wr) (fun a b wr => 0)
  case atStart => exact ⟨rfl, rfl, Below.refl _ _⟩
  case round =>
    obtain ⟨rfl, rfl, hbl⟩ := hrel
    have h := ins0_any A c wr
    go_wp2_with fail
    refine h.mono ?_
    rintro e w2 ⟨rfl, hb2⟩
    go_wp2_with fail
    refine bodyPost_ret (results_none rfl _ _ _) rfl ?_
    exact ⟨rfl, hbl.trans (hb2.mono hbl.size)⟩
theorem sort0_any (A : Option Addr) (c : Nat) (w : World) :
    Calls Tryz.prog 100 #[.slice A 0 c] w fun e w' => e = .returned (.tuple #[]) ∧ Below w.heap.size w w' := by
  have h1 := Tryz.bits_Len 0 w (by decide) (by decide)
  generalize Lib.bitLen (0 : Int).toNat = L at *
  have h2 := pdq0_any A c L w
  go_enter Tryz.func100, Tryz.ntmps100
  go_wp2_with fail
  refine h1.mono ?_
  rintro e w2 ⟨rfl, rfl⟩
  go_wp2_with fail
  refine h2.mono ?_
  rintro e w3 ⟨rfl, hb⟩
  go_wp2_with fail
  go_end0
  exact ⟨rfl, hb⟩
theorem numSorted0_any (v : Value) (w : World) (h : LI w v []) :
    Calls Tryz.prog 71 #[v] w fun e w' => ∃ v', e = .returned v' ∧ LN w.heap.size w' v' (sortL []) ∧ Below w.heap.size w w' := by
  obtain ⟨A, c, rfl, hc, _⟩ := h
  have h1 := clone0_any A c w
  simp only [List.length_nil]
  go_enter Tryz.func71, Tryz.ntmps71
  go_wp2_with fail
  refine h1.mono ?_
  rintro e w2 ⟨⟨A', c', rfl, hc9⟩, hb2⟩
  have h2 := sort0_any A' c' w2
  go_wp2_with fail
  refine h2.mono ?_
  rintro e w3 ⟨rfl, hb3⟩
  have h3 := Tryz.slices_Compact_int_empty A' c' w3
  go_wp2_with fail
  refine h3.mono ?_
  rintro e w4 ⟨rfl, rfl⟩
  go_wp2_with fail
  go_ret
  rw [show sortL [] = [] by simp [sortL, Lib.compact, Lib.compactUpTo]]
  exact ⟨_, rfl, ⟨A', c', rfl, Nat.zero_le _, hc9, fun h => absurd h (by simp)⟩, hb2.trans (hb3.mono hb2.size)⟩
end
section
open Go.RowKit Go.Sort

theorem numSorted1_any (l : List Int) (v : Value) (w : World) (hl : l.length ≤ 1000000) (hp : 0 < l.length) (h : LI w v l) :
    Calls Tryz.prog 71 #[v] w fun e w' => ∃ v', e = .returned v' ∧ LN w.heap.size w' v' (sortL l) ∧ Below w.heap.size w w' := by
  obtain ⟨i0, hi0, hz0, hz1, hz2⟩ := info_parts i64Info
  obtain ⟨b, o, c, rfl, hc, hb, hcell⟩ := h.some_ hp
  have h1 := Tryz.slices_Clone i0 (.int .i64 0) 1 8 hi0 hz0 hz1 hz2 rfl (by decide) Tryz.sizeOf2 b o l.length c (l.map (Value.int .i64)) w (by simp) (by unfold maxLen; omega) (by omega)
    (fun j u hj => by
      rw [List.getElem?_map] at hj
      rcases Nat.lt_or_ge j l.length with hlt | hge
      · rw [List.getElem?_eq_getElem hlt] at hj
        obtain rfl : Value.int .i64 l[j] = u := by simpa using hj
        exact hcell j hlt
      · rw [List.getElem?_eq_none hge] at hj; simp at hj)
    (fun u hu => by obtain ⟨x, _, rfl⟩ := List.mem_map.1 hu; rfl)
  have H1 := hide h1
  clear h1
  unfold sortL
  have hSl : (l.mergeSort fun x y => decide (x ≤ y)).length = l.length := List.length_mergeSort ..
  generalize hSd : (l.mergeSort fun x y => decide (x ≤ y)) = S at *
  have HSd := hide hSd
  have HSl := hide hSl
  clear hSd hSl
  go_enter Tryz.func71, Tryz.ntmps71
  go_wp2_with fail
  refine H1.out.mono ?_
  rintro e w1 ⟨v', rfl, hown, hnn, hb1⟩
  obtain ⟨_, ⟨_, hn0⟩ | ⟨g, cap, cur, rfl, hbase, hblk, hn, hcap, hcs, htake⟩⟩ := hown
  · omega
  rw [Nat.mul_one] at htake
  have hg : g < w1.heap.size := (Array.getElem?_eq_some_iff.1 hblk).1
  have hH := holds_of_blockI hblk htake
  have h2 := Tryz.slices_Sort_int g 0 cap l w1 hH hg (by omega)
  rw [HSd.out] at h2
  have H2 := hide h2
  clear h2 H1 hH
  go_wp2_with fail
  refine H2.out.mono ?_
  rintro e w2 ⟨rfl, n, os, rfl⟩
  have hSl := HSl.out
  have hown2 := ownsRow_sortedI (n := n) (os := os) (ts := S) hSl hbase hblk hn hcap hcs
  have hgr2 := grownBy_sortedI (w := w1) (g := g) (n := n) (os := os) S.toArray
  generalize Go.Sort.grow (putRow (Value.int .i64) (Sort.ahead w1 n) g 0 S.toArray) os = w2 at *
  have hb2 : Below w.heap.size w w2 := hb1.grown hgr2 hb1.size (fun j hj => by cases hj; exact hbase)
  obtain ⟨_, ⟨hx, _⟩ | ⟨g', cap', cur2, hv, _, hblk2, _, _, hcs2, htake2⟩⟩ := hown2
  · cases hx
  cases hv
  rw [Nat.mul_one, ← hSl] at htake2
  have hg2 : g < w2.heap.size := (Array.getElem?_eq_some_iff.1 hblk2).1
  have hH2 := holds_of_blockI hblk2 htake2
  have h3 := Tryz.slices_Compact_int g 0 cap S w2 hH2 (by omega) (by omega)
  rw [hSl] at h3
  have H3 := hide h3
  have hcl := compact_len S
  clear h3 H2 hH2
  go_wp2_with fail
  refine H3.out.mono ?_
  rintro e w3 ⟨rfl, q, hw3⟩
  have hown3 := ownsRow_sortedI (n := q) (os := #[]) (ss := S) (ts := Lib.compact S ++ List.replicate (S.length - (Lib.compact S).length) 0) (by simp; omega) hbase hblk2 (by omega) hcap hcs2
  have hgr3 := grownBy_sortedI (w := w2) (g := g) (n := q) (os := #[]) (Lib.compact S ++ List.replicate (S.length - (Lib.compact S).length) 0).toArray
  rw [grow_empty] at hown3 hgr3
  rw [hSl] at hown3 hgr3
  rw [← hw3] at hown3 hgr3
  have hb3 : Below w.heap.size w w3 := hb2.grown hgr3 hb2.size (fun j hj => by cases hj; exact hbase)
  have hLI : LN w.heap.size w3 (.slice (some ⟨g, 0, none⟩) (Lib.compact S).length cap) (Lib.compact S) := by
    refine ⟨_, _, rfl, by omega, by unfold maxLen at hcap; omega, fun _ => ⟨g, 0, rfl, hbase, ?_, fun i hi => ?_⟩⟩
    · have := hgr3.size; omega
    · rw [Nat.zero_add]
      exact own_cell hown3 rfl (by rw [List.getElem?_map, List.getElem?_append_left hi, List.getElem?_eq_getElem hi]; rfl)
  clear hw3 H3 hown3 hgr3 hblk hblk2 htake htake2
  go_wp2_with fail
  go_ret
  exact ⟨_, rfl, hLI, hb3⟩
theorem numSorted_any (l : List Int) (v : Value) (w : World) (hl : l.length ≤ 1000000) (h : LI w v l) :
    Calls Tryz.prog 71 #[v] w fun e w' => ∃ v', e = .returned v' ∧ LN w.heap.size w' v' (sortL l) ∧ Below w.heap.size w w' := by
  cases l with
  | nil => exact numSorted0_any v w h
  | cons x l => exact numSorted1_any (x :: l) v w hl (by simp) h
end
section
open Go.RowKit
theorem one_arg {vs : Array Value} {a : AV} (hn : vs.size = [a].length) : ∃ x, vs = #[x] := ⟨vs[0]'(by simp at hn; omega), by
  apply Array.ext (by simpa using hn)
  intro i h1 h2
  simp at h2
  subst h2
  rfl⟩
theorem numSorted_A (l : List Int) (hl : l.length ≤ 1000000) : ADet Tryz.prog 71 [sI l] ⟨sI (sortR l), [], 0⟩ :=
  adet_of_sl (enters_of Tryz.func71 rfl (by decide)) fun S w vs hS hn hv => by
    obtain ⟨a, rfl⟩ := one_arg hn
    refine (numSorted_any l a w hl (LI.of_rt (hv 0 a _ rfl rfl) hS)).mono fun e w' ⟨v', h1, h2, h3⟩ => ?_
    rw [sortL_eq] at h2
    exact ⟨v', h1, fun S' hS' => h2.rt hS', h3⟩
structure Cls where
  attrs : Int
  const : Int
structure Zn where
  cls : List Cls
  gaps : List Int
abbrev eCls (x : Cls) : List AV := [eI x.attrs, eI x.const]
abbrev eZn (z : Zn) : List AV := [.sl 2 (z.cls.map eCls), sI z.gaps]
end
section
open Go.RowKit
def numsL (vals c : List Int) : List Int := sortR (vals ++ c)
def attrsN (vals : List Int) (n : Int) : Nat → Int
  | 0 => 0
  | k + 1 => if vals.getD k 0 = n then withB (attrsN vals n k) (k : Int) else attrsN vals n k
def constN (c : List Int) (n : Int) : Nat → Int
  | 0 => -1
  | k + 1 => if c.getD k 0 = n then (k : Int) else constN c n k
def clsOf (vals c : List Int) (n : Int) : Cls := ⟨attrsN vals n vals.length, constN (sortR c) n (sortR c).length⟩
def clsL (vals c : List Int) : List Cls := (numsL vals c).map (clsOf vals c)
theorem hasB_zero (a : Int) : hasB 0 a = false := by simp [hasB]
theorem attrs_has (vals : List Int) (n : Int) : ∀ k, k ≤ 31 → ∀ a : Int, hasB (attrsN vals n k) a = true ↔ ∃ q : Nat, a = (q : Int) ∧ q < k ∧ vals.getD q 0 = n
  | 0, _, a => by
    unfold attrsN
    rw [hasB_zero]
    constructor
    · intro h
      cases h
    · rintro ⟨q, _, h, _⟩
      omega
  | k + 1, hk, a => by
    have ih := attrs_has vals n k (by omega) a
    unfold attrsN
    by_cases hv : vals.getD k 0 = n
    · rw [if_pos hv, hasB_with]
      have h1 : decide (0 ≤ (k : Int) ∧ (k : Int) < 31) = true := by simp only [decide_eq_true_eq]; omega
      rw [h1, Bool.true_and, Bool.or_eq_true, ih]
      constructor
      · rintro (h | ⟨q, h2, h3, h4⟩)
        · exact ⟨k, by simpa using h, by omega, hv⟩
        · exact ⟨q, h2, by omega, h4⟩
      · rintro ⟨q, h2, h3, h4⟩
        rcases Nat.lt_or_ge q k with h5 | h5
        · exact .inr ⟨q, h2, h5, h4⟩
        · obtain rfl : q = k := by omega
          exact .inl (by simp [h2])
    · rw [if_neg hv, ih]
      constructor
      · rintro ⟨q, h2, h3, h4⟩
        exact ⟨q, h2, by omega, h4⟩
      · rintro ⟨q, h2, h3, h4⟩
        rcases Nat.lt_or_ge q k with h5 | h5
        · exact ⟨q, h2, h5, h4⟩
        · obtain rfl : q = k := by omega
          exact absurd h4 hv
theorem const_spec (c : List Int) (n : Int) : ∀ k, (constN c n k = -1 ∧ ∀ q, q < k → c.getD q 0 ≠ n) ∨ ∃ q : Nat, constN c n k = (q : Int) ∧ q < k ∧ c.getD q 0 = n
  | 0 => .inl ⟨rfl, fun q h => by omega⟩
  | k + 1 => by
    unfold constN
    by_cases hv : c.getD k 0 = n
    · rw [if_pos hv]
      exact .inr ⟨k, rfl, by omega, hv⟩
    · rw [if_neg hv]
      rcases const_spec c n k with ⟨h1, h2⟩ | ⟨q, h1, h2, h3⟩
      · refine .inl ⟨h1, fun q h => ?_⟩
        rcases Nat.lt_or_ge q k with h5 | h5
        · exact h2 q h5
        · obtain rfl : q = k := by omega
          exact hv
      · exact .inr ⟨q, h1, by omega, h3⟩
end
section
open Go.RowKit
def capV (r : Int) : Int := 2 ^ (min r.toNat 20) - 1
def gapV (a b m : Int) : Int := max 0 (min (b - a - 1) m)
end
section
open Go.RowKit
def gapsN (L : List Int) (r : Int) (k : Nat) : List Int := (List.range (k - 1)).map fun i => gapV (L.getD i 0) (L.getD (i + 1) 0) (capV r)
def zoneM (vals c : List Int) (r : Int) : Zn := ⟨clsL vals c, gapsN (numsL vals c) r (numsL vals c).length⟩
theorem capV_le (r : Int) : capV r ≤ 4294967296 := by
  have h1 : (2 : Nat) ^ (min r.toNat 20) ≤ 2 ^ 20 := Nat.pow_le_pow_right (by omega) (by omega)
  have h2 : ((2 ^ (min r.toNat 20) : Nat) : Int) = (2 : Int) ^ (min r.toNat 20) := by simp
  unfold capV
  omega
end
section
open Go.RowKit
structure Nd where
  z : Zn
  opn : Int
  don : Int
  did : List Int
  cnt : List Int
abbrev eNd (n : Nd) : List AV := [.sl 2 (n.z.cls.map eCls), sI n.z.gaps, eI n.opn, eI n.don, sI n.did, sI n.cnt]
end
section
open Go.RowKit
set_option maxRecDepth 100000 in
set_option maxHeartbeats 8000000 in
theorem wild_A (m : Mod) (hle : m.events.length ≤ 9223372036854775807) : ARel Tryz.prog 6 [.agg (eMod m)] fun R => ∃ b, R = val (.bool b) ∧ (b = false → Fit m ∧ ∀ e ∈ m.events, e.times ≤ 10 ∧ e.sets.length ≤ 10) := by
  refine arel_of_code mixedT Tryz.func6 rfl (by decide) Tryz.ntmps6 Tryz.results6 rfl ?_
  (repeat' (first | simp (maxSteps := 5000000) (implicitDefEqProofs := false) only [ruA, ruB, aEv, ASt.get, aget, ASt.put, aBox, aCells, oneC, oneCL, envOf, ↓reduceIte, Nat.reduceLT, eq_self] | (with_reducible refine aIf_split (fun _ => ?_) (fun _ => ?_)) | (with_reducible refine aSel_split (fun _ => ?_) (fun _ => ?_)) | (with_reducible refine aGd_split (fun _ => ?_) (fun _ => ?_))))
  refine aLoop_of (fun st => ∃ k : Nat, k ≤ m.events.length ∧ (∀ i (h : i < m.events.length), i < k → m.events[i].times ≤ 10 ∧ m.events[i].sets.length ≤ 10) ∧ st = ⟨30, [(1, .op 0 0 0), (3, eI (k : Int))], [(0, some (.box 32 (eMod m)))], 1⟩) (fun st => m.events.length - slotN st 3) ⟨_, (weak_cut1 (by (first | ((simp only [envIn, tabIn, envLt, tabLt, AObj.lt, AV.lt, AV.ltL, ruW, ASt.get, aget, ↓reduceIte, Nat.reduceLT, Nat.reduceEqDiff, eq_self]) <;> (repeat' apply And.intro) <;> first | (rw [wrapK (by omega)]; done) | (simp; done) | omega) | fail))), 0, Nat.zero_le _, by simp, rfl⟩ ?_
  rintro _ ⟨k, hk, hI, rfl⟩
  by_cases hlt : k < m.events.length
  · obtain ⟨e, he⟩ : ∃ e, m.events[k] = e := ⟨_, rfl⟩
    have ew : IntKind.i64.wrap ((k : Int) + 1) = ((k + 1 : Nat) : Int) := by rw [wrap_in (by omega) (by omega)]; omega
    by_cases h1 : e.times ≤ 10
    · have d1 : decide (10 < e.times) = false := by simp only [decide_eq_false_iff_not]; omega
      by_cases h2 : e.sets.length ≤ 10
      · have d2 : decide (10 < (e.sets.length : Int)) = false := by simp only [decide_eq_false_iff_not]; omega
        have d3 : decide (10 < e.sets.length) = false := by simp only [decide_eq_false_iff_not]; omega
        (repeat' (first | simp (maxSteps := 5000000) (implicitDefEqProofs := false) only [ruA, ruB, aEv, aTake, aLoad, aField, aIndex, aLen, aBin, bin2, ASt.get, aget, ASt.put, ↓reduceIte, reduceCtorEq, Nat.reduceLT, Nat.reduceEqDiff, Nat.reduceAdd, Nat.reduceLeDiff, eq_self, ne_eq, tyF_32_5, tyA_26, tyS_26, tyE_26, tyF_56_4, tyA_3, tyS_3, tyF_56_3, tyA_33, tyS_33, tyE_33, row_at, hlt, he, d1, d2] | (with_reducible refine aIf_split (fun _ => ?_) (fun _ => ?_)) | (with_reducible refine aSel_split (fun _ => ?_) (fun _ => ?_)) | (with_reducible refine aGd_split (fun _ => ?_) (fun _ => ?_)) | (with_reducible refine aDraw_quiet (by kernel_rfl) ?_)))
        refine roundI (weak_cut1 (by (first | ((simp only [envIn, tabIn, envLt, tabLt, AObj.lt, AV.lt, AV.ltL, ruW, ASt.get, aget, ↓reduceIte, Nat.reduceLT, Nat.reduceEqDiff, eq_self, ew]) <;> (repeat' apply And.intro) <;> first | (rw [wrapK (by omega)]; done) | (simp; done) | omega) | fail))) ⟨k + 1, by omega, fun i hi hik => ?_, rfl⟩ (by simp only [slotN, ASt.get, aget, ↓reduceIte, Nat.reduceLT, Nat.reduceEqDiff, eq_self]; omega)
        rcases Nat.lt_or_ge i k with h | h
        · exact hI i hi h
        · obtain rfl : i = k := by omega
          rw [he]
          exact ⟨h1, h2⟩
      · have d2 : decide (10 < (e.sets.length : Int)) = true := by simp only [decide_eq_true_eq]; omega
        have d3 : decide (10 < e.sets.length) = true := by simp only [decide_eq_true_eq]; omega
        (repeat' (first | simp (maxSteps := 5000000) (implicitDefEqProofs := false) only [ruA, ruB, aEv, aTake, aLoad, aField, aIndex, aLen, aBin, bin2, ASt.get, aget, ASt.put, aResL, aOne, ↓reduceIte, reduceCtorEq, Nat.reduceLT, Nat.reduceEqDiff, Nat.reduceAdd, Nat.reduceLeDiff, eq_self, ne_eq, tyF_32_5, tyA_26, tyS_26, tyE_26, tyF_56_4, tyA_3, tyS_3, tyF_56_3, tyA_33, tyS_33, tyE_33, row_at, hlt, he, d1, d2] | (with_reducible refine aIf_split (fun _ => ?_) (fun _ => ?_)) | (with_reducible refine aSel_split (fun _ => ?_) (fun _ => ?_)) | (with_reducible refine aGd_split (fun _ => ?_) (fun _ => ?_)) | (with_reducible refine aDraw_quiet (by kernel_rfl) ?_)))
        exact retV ⟨true, rfl, by simp⟩
    · have d1 : decide (10 < e.times) = true := by simp only [decide_eq_true_eq]; omega
      (repeat' (first | simp (maxSteps := 5000000) (implicitDefEqProofs := false) only [ruA, ruB, aEv, aTake, aLoad, aField, aIndex, aLen, aBin, bin2, ASt.get, aget, ASt.put, aResL, aOne, ↓reduceIte, reduceCtorEq, Nat.reduceLT, Nat.reduceEqDiff, Nat.reduceAdd, Nat.reduceLeDiff, eq_self, ne_eq, tyF_32_5, tyA_26, tyS_26, tyE_26, tyF_56_4, tyA_3, tyS_3, row_at, hlt, he, d1] | (with_reducible refine aIf_split (fun _ => ?_) (fun _ => ?_)) | (with_reducible refine aSel_split (fun _ => ?_) (fun _ => ?_)) | (with_reducible refine aGd_split (fun _ => ?_) (fun _ => ?_)) | (with_reducible refine aDraw_quiet (by kernel_rfl) ?_)))
      exact retV ⟨true, rfl, by simp⟩
  · obtain rfl : k = m.events.length := by omega
    (repeat' (first | simp (maxSteps := 5000000) (implicitDefEqProofs := false) only [ruA, ruB, aEv, aTake, aLoad, aField, aLen, aBin, bin2, ASt.get, aget, ASt.put, ↓reduceIte, reduceCtorEq, Nat.reduceLT, Nat.reduceEqDiff, Nat.reduceAdd, Nat.reduceLeDiff, eq_self, ne_eq, tyF_32_5, tyA_26, tyS_26, tyE_26, tyA_32, tyS_32, hlt] | (with_reducible refine aIf_split (fun _ => ?_) (fun _ => ?_)) | (with_reducible refine aSel_split (fun _ => ?_) (fun _ => ?_)) | (with_reducible refine aGd_split (fun _ => ?_) (fun _ => ?_))))
    refine callPB (great12_A m) fun b hb => ?_
    (repeat' (first | simp (maxSteps := 5000000) (implicitDefEqProofs := false) only [ruA, aEv, ASt.get, aget, ASt.put, aResL, aOne, ↓reduceIte, Nat.reduceLT, eq_self] | (with_reducible refine aIf_split (fun _ => ?_) (fun _ => ?_)) | (with_reducible refine aSel_split (fun _ => ?_) (fun _ => ?_)) | (with_reducible refine aGd_split (fun _ => ?_) (fun _ => ?_))))
    refine retV ⟨b, rfl, fun h => ⟨hb h, fun e he => ?_⟩⟩
    obtain ⟨i, hi, rfl⟩ := List.getElem_of_mem he
    exact hI i hi hi
end
section
open Go.RowKit
def wasN (c : List Int) (i : Nat) : Int := if i < c.length ∧ 0 < c.getD i 0 then c.getD i 0 else 0
def evN (m : Mod) (c : List Int) (k : Nat) : Int := (max 0 ((m.events[k]?.map (·.times)).getD 0 - wasN c k)).toNat * (((m.events[k]?.map (·.sets.length)).getD 0 : Nat) : Int)
def leftN (m : Mod) (c : List Int) : Nat → Int
  | 0 => 0
  | k + 1 => leftN m c k + evN m c k
theorem wasN_pos (c : List Int) (i : Nat) : 0 ≤ wasN c i := by
  unfold wasN
  split <;> omega
end
section
open Go.RowKit
def nodeM (m : Mod) (c : List Int) (s : St) : Nd := ⟨zoneM s.vals c (leftN m s.cnt m.events.length), s.opn, s.don, s.did, s.cnt⟩
end
end Go.Proofs.YtmcegfoaceilgaaGreat
