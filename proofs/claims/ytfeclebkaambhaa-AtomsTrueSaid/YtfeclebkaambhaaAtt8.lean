/-
  Parts of the proof: AlW, E1, E4, F1, F2, F3, NumSpec, NumSortA, ZSortA, NumSortP, ZSortB.
-/
import Derived.Test.YtfeclebkaambhaaAtt7
import Derived.WalkKit
import Derived.WalkLawsBesides
import Derived.Test.YtfeclebkaambhaaSortShelf
import Derived.Deep.LoopGhost
import Derived.Deep.Draws
import Derived.Deep.QuietTactic
import Derived.OpenShut
import Derived.ProofKit
import Derived.Lib.SlicesCompact
import Derived.Deep.AppendLies
import Derived.Deep.DeepCutAuto
set_option linter.unusedVariables false
set_option linter.unusedSimpArgs false
namespace Go.Proofs.Ytfeclebkaambhaa
section
open Go.RowKit

mutual
def AV.rpz (id : Nat) (cells : List AV) : AV → AV
  | .op id' i j => if id' = id then (if i = 0 then .rp (cells.drop j) else .any) else .op id' i j
  | .osl id' => if id' = id then .any else .osl id'
  | .agg cs => .agg (AV.rpzL id cells cs)
  | .tup cs => .tup (AV.rpzL id cells cs)
  | .fn f cs => .fn f (AV.rpzL id cells cs)
  | .any => .any
  | .c v => .c v
  | .sl sz rows => .sl sz rows
  | .rp cs => .rp cs
def AV.rpzL (id : Nat) (cells : List AV) : List AV → List AV
  | [] => []
  | a :: l => a.rpz id cells :: AV.rpzL id cells l
end
theorem rpzL_map (id : Nat) (cells : List AV) : ∀ l : List AV, AV.rpzL id cells l = l.map (·.rpz id cells)
  | [] => rfl
  | a :: l => by rw [AV.rpzL, rpzL_map id cells l]; rfl
def rpzEnv (id : Nat) (cells : List AV) : List (Nat × AV) → List (Nat × AV)
  | [] => []
  | (t, av) :: l => (t, av.rpz id cells) :: rpzEnv id cells l
theorem rpzEnv_get (id : Nat) (cells : List AV) : ∀ (l : List (Nat × AV)) (t : Nat), aget (rpzEnv id cells l) t = (aget l t).rpz id cells
  | [], t => rfl
  | (k, av) :: l, t => by
    unfold rpzEnv aget
    split
    · rfl
    · exact rpzEnv_get id cells l t
def treeObj : AObj → Prop
  | .box _ cells => treeL cells
  | .row _ _ _ => True
def treeTab (id : Nat) : ATab → Prop
  | [] => True
  | (k, some o) :: l => (k = id ∨ treeObj o) ∧ treeTab id l
  | (_, none) :: l => treeTab id l
theorem treeTab_get {id : Nat} : ∀ {l : ATab} {k : Nat} {o : AObj}, treeTab id l → l.get k = some o → k = id ∨ treeObj o
  | [], k, o, _, h => by cases h
  | (k', some oo) :: l, k, o, ht, h => by
    rw [ATab.get_cons] at h
    split at h
    · rename_i e
      cases h
      rw [e]
      exact ht.1
    · exact treeTab_get ht.2 h
  | (k', none) :: l, k, o, ht, h => by
    rw [ATab.get_cons] at h
    split at h
    · cases h
    · exact treeTab_get (l := l) ht h
theorem rt_rpz {w : World} {S : Nat → Prop} {x : Value} {av : AV} (h : RT w S x av) (id : Nat) (cells : List AV) : av.rpz id cells = av := by
  induction h with
  | agg xs cs hn hr ih =>
    simp only [AV.rpz, rpzL_map, AV.agg.injEq]
    apply List.ext_getElem?
    intro j
    rw [List.getElem?_map]
    cases hj : cs[j]? with
    | none => rfl
    | some av =>
      have hlt : j < xs.size := by rw [hn]; exact (List.getElem?_eq_some_iff.1 hj).1
      simp [ih j _ av (Array.getElem?_eq_getElem hlt) hj]
  | tup xs cs hn hr ih =>
    simp only [AV.rpz, rpzL_map, AV.tup.injEq]
    apply List.ext_getElem?
    intro j
    rw [List.getElem?_map]
    cases hj : cs[j]? with
    | none => rfl
    | some av =>
      have hlt : j < xs.size := by rw [hn]; exact (List.getElem?_eq_some_iff.1 hj).1
      simp [ih j _ av (Array.getElem?_eq_getElem hlt) hj]
  | fn f xs cs hn hr ih =>
    simp only [AV.rpz, rpzL_map, AV.fn.injEq]
    refine ⟨trivial, ?_⟩
    apply List.ext_getElem?
    intro j
    rw [List.getElem?_map]
    cases hj : cs[j]? with
    | none => rfl
    | some av =>
      have hlt : j < xs.size := by rw [hn]; exact (List.getElem?_eq_some_iff.1 hj).1
      simp [ih j _ av (Array.getElem?_eq_getElem hlt) hj]
  | _ => rfl
theorem rpz_lt {id nx : Nat} {cells : List AV} : ∀ {av : AV}, av.lt nx → (av.rpz id cells).lt nx := by
  intro av
  induction av using AV.rec (motive_2 := fun _ => True) (motive_3 := fun l => AV.ltL nx l → AV.ltL nx (AV.rpzL id cells l)) <;> simp_all [AV.lt, AV.ltL, AV.rpz, AV.rpzL]
  · split <;> simp_all [AV.lt]
  · split
    · split <;> simp [AV.lt]
    · simp_all [AV.lt]
/-- a variable of its own is written no more: pointers to it are pointers to what is read -/
theorem weak_rp {n nx : Nat} {env : List (Nat × AV)} {tab : ATab} (id : Nat) {ty : TypeId} {cells : List AV} (hid : tab.get id = some (.box ty cells)) (ht : treeL cells) (hot : treeTab id tab) : Weak ⟨n, env, tab, nx⟩ ⟨n, rpzEnv id cells env, (id, none) :: tab, nx⟩ := by
  intro cx a w L h
  have hget : ∀ k o, ATab.get ((id, none) :: tab) k = some o → k ≠ id ∧ tab.get k = some o := fun k o hk => by
    rw [ATab.get_cons] at hk
    split at hk
    · cases hk
    · exact ⟨by assumption, hk⟩
  have hS : ∀ b, Sx cx w tab L b → Sx cx w ((id, none) :: tab) L b := fun b hb => ⟨hb.1, hb.2.1, fun k o hk => hb.2.2 k o (hget k o hk).2⟩
  have hK : ∀ k p, Kx ((id, none) :: tab) L k = some p → k ≠ id ∧ Kx tab L k = some p := fun k p hk => by
    unfold Kx at *
    cases ho : ATab.get ((id, none) :: tab) k with
    | none => simp [ho] at hk
    | some o =>
      obtain ⟨h1, h2⟩ := hget k o ho
      refine ⟨h1, ?_⟩
      rw [h2]
      simpa [ho] using hk
  obtain ⟨g, cs, hL, hbg, hheap, hcs, hx⟩ := h.lay.objs id _ hid
  have hg : vblk (L id) = some g := by rw [hL]; rfl
  have hSg : Sx cx w ((id, none) :: tab) L g := ⟨(Array.getElem?_eq_some_iff.1 hheap).1, ⟨.inr hbg, fun hX => (h.lay.ex g hX).2 id _ hid hg⟩, fun k o hk hkg => by
    obtain ⟨h1, h2⟩ := hget k o hk
    exact h1 (h.lay.sep k id o _ g h2 hid hkg hg)⟩
  have conv : ∀ x av, RVx cx w tab L x av → RVx cx w ((id, none) :: tab) L x (av.rpz id cells) := fun x av hr => by
    induction hr with
    | tree h0 =>
      rw [rt_rpz h0]
      exact .tree (h0.mono (fun _ _ => rfl) hS)
    | osl x id' h0 =>
      unfold AV.rpz
      split
      · exact .tree (.any _)
      · exact .osl x id' fun sz v e => h0 sz v (hK id' _ e).2
    | op x id' i j h0 =>
      unfold AV.rpz
      split
      · rename_i e
        subst e
        split
        · rename_i e
          subst e
          obtain ⟨g', hg', rfl⟩ := h0 _ _ (kx_of hid)
          rw [hg] at hg'
          cases hg'
          rw [Nat.zero_mul, Nat.zero_add]
          refine .tree (.rp g j _ (fun k => cs[j + k]?.getD undef) hSg (fun k av hk => ?_) (fun k av hk => ?_))
          · rw [List.getElem?_drop] at hk
            have hlt : j + k < cs.size := by rw [hcs]; exact (List.getElem?_eq_some_iff.1 hk).1
            rw [cell_of_row w g (j + k) cs ty (0, 0) hheap, Array.getElem?_eq_getElem hlt]
            rfl
          · rw [List.getElem?_drop] at hk
            have hlt : j + k < cs.size := by rw [hcs]; exact (List.getElem?_eq_some_iff.1 hk).1
            rw [Array.getElem?_eq_getElem hlt, Option.getD_some]
            exact (tree_of (hx (j + k) _ av (Array.getElem?_eq_getElem hlt) hk).1 (treeL_iff.1 ht av (List.mem_of_getElem? hk))).mono (fun _ _ => rfl) hS
        · exact .tree (.any _)
      · exact .op x id' i j fun sz v e => h0 sz v (hK id' _ e).2
    | agg xs cs' hn hr ih =>
      simp only [AV.rpz, rpzL_map]
      refine .agg xs _ (by simpa using hn) fun j x av h1 h2 => ?_
      rw [List.getElem?_map] at h2
      cases hj : cs'[j]? with
      | none => simp [hj] at h2
      | some av' =>
        simp [hj] at h2
        subst h2
        exact ih j x av' h1 hj
    | tup xs cs' hn hr ih =>
      simp only [AV.rpz, rpzL_map]
      refine .tup xs _ (by simpa using hn) fun j x av h1 h2 => ?_
      rw [List.getElem?_map] at h2
      cases hj : cs'[j]? with
      | none => simp [hj] at h2
      | some av' =>
        simp [hj] at h2
        subst h2
        exact ih j x av' h1 hj
    | fn f xs cs' hn hr ih =>
      simp only [AV.rpz, rpzL_map]
      refine .fn f xs _ (by simpa using hn) fun j x av h1 h2 => ?_
      rw [List.getElem?_map] at h2
      cases hj : cs'[j]? with
      | none => simp [hj] at h2
      | some av' =>
        simp [hj] at h2
        subst h2
        exact ih j x av' h1 hj
  refine ⟨L, ⟨⟨h.lay.below, fun k o hk => ?_, fun k k' o o' g' h1 h2 => h.lay.sep k k' o o' g' (hget k o h1).2 (hget k' o' h2).2, fun b hb => ⟨(h.lay.ex b hb).1, fun k o hk => (h.lay.ex b hb).2 k o (hget k o hk).2⟩⟩, h.size, h.defers.mono (fun _ _ => rfl) hS, fun k o hk => h.young k o (hget k o hk).2, fun t => ?_⟩, hS⟩
  · obtain ⟨h1, h2⟩ := hget k o hk
    have ho := h.lay.objs k o h2
    have htr := (treeTab_get hot h2).resolve_left h1
    cases o with
    | box t cells' =>
      obtain ⟨g', cs', h3, h4, h5, h6, h7⟩ := ho
      exact ⟨g', cs', h3, h4, h5, h6, fun j x av h8 h9 => ⟨.tree ((tree_of (h7 j x av h8 h9).1 (treeL_iff.1 htr av (List.mem_of_getElem? h9))).mono (fun _ _ => rfl) hS), (h7 j x av h8 h9).2⟩⟩
    | row e sz rows =>
      obtain ⟨h3, xs, h4, h5, h6⟩ := ho
      refine ⟨h3, xs, h4, h5, fun i j row av h7 h8 => ?_⟩
      obtain ⟨x, hx, hr⟩ := h6 i j row av h7 h8
      exact ⟨x, hx, hr.mono (fun _ _ => rfl) hS⟩
  · have e1 : (⟨n, rpzEnv id cells env, (id, none) :: tab, nx⟩ : ASt).get t = ((⟨n, env, tab, nx⟩ : ASt).get t).rpz id cells := by
      unfold ASt.get
      simp only
      split
      · exact rpzEnv_get ..
      · simp [AV.rpz]
    rw [e1]
    exact ⟨conv _ _ (h.env t).1, rpz_lt (h.env t).2⟩
/-- a variable's part that holds no slice, seen as a slice of the call's own that is empty -/
theorem weak_nilbox {st : ASt} (id j e sz : Nat) {t : TypeId} {cells : List AV} (hid : st.tab.get id = some (.box t cells)) (hj : cells[j]? = some (.c (.slice none 0 0))) :
    Weak st ⟨st.n, st.env, (id, some (.box t (cells.set j (.osl st.next)))) :: (st.next, some (.row e sz [])) :: st.tab, st.next + 1⟩ := by
  intro cx a w L h
  have hc1 := conc_new (ob := .row e sz []) (v := .slice none 0 0) (x := .slice none 0 0) (av := .any) h (Below.refl _ _) (fun g hg => by simp [vblk] at hg) (fun hext => ⟨by simp, [], ownsR_nil .., by simp, by simp⟩) trivial (fun hext => .tree (.any _)) trivial none
  have hlt := (h.young id _ hid).1
  have hget1 : ATab.get ((st.next, some (.row e sz [])) :: st.tab) id = some (.box t cells) := by rw [ATab.get_cons, if_neg (by omega)]; exact hid
  generalize hL1 : updL L st.next (.slice none 0 0) = L1 at hc1
  generalize ht1 : (st.next, some (AObj.row e sz [])) :: st.tab = tab1 at hc1 hget1 ⊢
  have hc1 : Conc cx a w ⟨st.n, st.env, tab1, st.next + 1⟩ L1 := hc1
  have hnew : ATab.get tab1 st.next = some (.row e sz []) := by rw [← ht1, ATab.get_cons, if_pos rfl]
  have hLn : L1 st.next = .slice none 0 0 := by rw [← hL1]; simp [updL]
  have hget : ∀ k o, ATab.get ((id, some (.box t (cells.set j (.osl st.next)))) :: tab1) k = some o → ∃ o', ATab.get tab1 k = some o' ∧ o.sz = o'.sz := fun k o hk => by
    rw [ATab.get_cons] at hk
    split at hk
    · rename_i e1
      cases hk
      exact ⟨_, by rw [e1]; exact hget1, by simp [AObj.sz]⟩
    · exact ⟨o, hk, rfl⟩
  have hS1 : ∀ b, Sx cx w tab1 L1 b → Sx cx w ((id, some (.box t (cells.set j (.osl st.next)))) :: tab1) L1 b := fun b hb => ⟨hb.1, hb.2.1, fun k o hk => by
    obtain ⟨o', h1, _⟩ := hget k o hk
    exact hb.2.2 k o' h1⟩
  have hK : ∀ k p, Kx ((id, some (.box t (cells.set j (.osl st.next)))) :: tab1) L1 k = some p → Kx tab1 L1 k = some p := fun k p hk => by
    unfold Kx at *
    cases ho : ATab.get ((id, some (.box t (cells.set j (.osl st.next)))) :: tab1) k with
    | none => simp [ho] at hk
    | some o =>
      obtain ⟨o', h1, h2⟩ := hget k o ho
      rw [h1]
      simpa [ho, h2] using hk
  have hrv : ∀ {x av}, RVx cx w tab1 L1 x av → av.lt (st.next + 1) → RVx cx w ((id, some (.box t (cells.set j (.osl st.next)))) :: tab1) L1 x av := fun hr hl => hr.mono hl (fun _ _ => rfl) hS1 fun k p _ hk => hK k p hk
  refine ⟨L1, ⟨⟨hc1.lay.below, fun k o hk => ?_, fun k k' o o' g h1 h2 => ?_, fun b hb => ⟨(hc1.lay.ex b hb).1, fun k o hk => by
    obtain ⟨o', h1, _⟩ := hget k o hk
    exact (hc1.lay.ex b hb).2 k o' h1⟩⟩, hc1.size, hc1.defers.mono (fun _ _ => rfl) hS1, fun k o hk => ?_, fun t => ⟨hrv (hc1.env t).1 (hc1.env t).2, (hc1.env t).2⟩⟩, fun b hb => hS1 b ?_⟩
  · rw [ATab.get_cons] at hk
    split at hk
    · rename_i e1
      cases hk
      subst e1
      obtain ⟨g, cs, h1, h2, h3, h4, h5⟩ := hc1.lay.objs _ _ hget1
      refine ⟨g, cs, h1, h2, h3, by simpa using h4, fun i x av h6 h7 => ?_⟩
      rw [List.getElem?_set] at h7
      split at h7
      · rename_i e2
        subst e2
        split at h7
        · cases h7
          have h8 := h5 j x _ h6 hj
          refine ⟨.osl x _ fun sz' v hk => ?_, h8.2⟩
          have hk := hK _ _ hk
          unfold Kx at hk
          rw [hnew] at hk
          simp at hk
          rw [h8.1.c_inv, ← hk.2, hLn]
        · cases h7
      · have h8 := h5 i x av h6 h7
        exact ⟨hrv h8.1 (ltL_iff.1 (hc1.young _ _ hget1).2 _ (List.mem_of_getElem? h7)), h8.2⟩
    · have ho := hc1.lay.objs k o hk
      have hy := (hc1.young k o hk).2
      cases o with
      | box t' cells' =>
        obtain ⟨g, cs, h1, h2, h3, h4, h5⟩ := ho
        exact ⟨g, cs, h1, h2, h3, h4, fun i x av h6 h7 => ⟨hrv (h5 i x av h6 h7).1 (ltL_iff.1 hy _ (List.mem_of_getElem? h7)), (h5 i x av h6 h7).2⟩⟩
      | row e' sz' rows' =>
        obtain ⟨h1, xs, h2, h3, h4⟩ := ho
        refine ⟨h1, xs, h2, h3, fun i j row av h5 h6 => ?_⟩
        obtain ⟨x, hx, hr⟩ := h4 i j row av h5 h6
        exact ⟨x, hx, hr.mono (fun _ _ => rfl) hS1⟩
  · obtain ⟨o1, h3, _⟩ := hget k o h1
    obtain ⟨o2, h4, _⟩ := hget k' o' h2
    exact hc1.lay.sep k k' o1 o2 g h3 h4
  · rw [ATab.get_cons] at hk
    split at hk
    · rename_i e1
      cases hk
      have hy := hc1.young id _ hget1
      refine ⟨by rw [e1]; exact hy.1, ltL_iff.2 fun x hx => ?_⟩
      rcases List.mem_or_eq_of_mem_set hx with hx | rfl
      · exact ltL_iff.1 hy.2 x hx
      · exact Nat.lt_succ_self _
    · exact hc1.young k o hk
  · refine ⟨hb.1, hb.2.1, fun k o hk hg => ?_⟩
    rw [← ht1, ATab.get_cons] at hk
    rw [← hL1] at hg
    unfold updL at hg
    split at hk
    · rename_i e1
      rw [if_pos e1] at hg
      simp [vblk] at hg
    · rename_i e1
      rw [if_neg e1] at hg
      exact hb.2.2 k o hk hg
/-- the answer, seen otherwise -/
def aRetW (P : Program) (rs : List ResultVar) (Post : Res → Prop) (e : Exit) (st : ASt) : Prop := aTo (aRetR P rs Post e) st
theorem arel_of_weak {P : Program} (hm : P.follows .mixedOrders = true) {f : FuncId} {fn : Func} {c : Code} (hf : P.funcs[f]? = some fn) (hb : fn.body = some c) (hname : (fn.name == "runtime.NumGoroutine") = false) {args : List AV} {Post : Res → Prop} {n : Nat} (hnt : fn.ntmps = n) {rs : List ResultVar} (hrs : fn.results = rs.toArray) (hn : Nat.ble args.length n = true)
    (h : aCode P c (aRetW P rs Post) ⟨n, envOf 0 args, [], 0⟩) : ARel P f args Post :=
  arel_of_wp hf hb hname hnt hrs hn fun cx a w L hc => Code.wp_mono (fun e a w ⟨st, L, ⟨st', hw, h1⟩, h2⟩ => (hw _ _ _ _ h2).elim fun L' h3 => ⟨st', L', h1, h3.1⟩) (code_ok hm c _ a w _ L hc h)
theorem aRnd_normal {I : List (List AV) → ASt → Prop} {Ix : Code → List (List AV) → ASt → Prop} {pre : List (List AV)} {st1 st' : ASt} : aRnd I Ix pre st1 .normal st' = aTo (I pre) ⟨st1.n, st1.env, st'.tab, st'.next⟩ := rfl
theorem aRnd_ret {I : List (List AV) → ASt → Prop} {Ix : Code → List (List AV) → ASt → Prop} {pre : List (List AV)} {st1 st' : ASt} : aRnd I Ix pre st1 .ret st' = aTo (Ix .ret pre) ⟨st1.n, st1.env, st'.tab, st'.next⟩ := rfl
theorem aRnd_exit {I : List (List AV) → ASt → Prop} {Ix : Code → List (List AV) → ASt → Prop} {pre : List (List AV)} {st1 st' : ASt} {id : Nat} : aRnd I Ix pre st1 (.exit id) st' = aTo (Ix (.exit id) pre) ⟨st1.n, st1.env, st'.tab, st'.next⟩ := rfl
theorem putAll_nil {st : ASt} : putAll [] st = st := rfl
theorem putAll_cons {p : Nat} {av : AV} {l : List (Nat × AV)} {st : ASt} : putAll ((p, av) :: l) st = putAll l (st.put (some p) av) := rfl
theorem ruL : type_of% (And.intro @aRnd_normal (And.intro @aRnd_ret (And.intro @aRnd_exit (And.intro @putAll_nil (And.intro @putAll_cons (And.intro (@List.zip_cons_cons.{0, 0}) (@List.zip_nil_left.{0, 0}))))))) :=
  And.intro @aRnd_normal (And.intro @aRnd_ret (And.intro @aRnd_exit (And.intro @putAll_nil (And.intro @putAll_cons (And.intro (@List.zip_cons_cons.{0, 0}) (@List.zip_nil_left.{0, 0}))))))
/-- a closure is given back -/
theorem retC {Post : Res → Prop} {st : ASt} {r av : AV} (h : Post ⟨r, [], 0⟩) (hl : r.lt 0) (hr : r.ren [] = av) : ∃ R, Post R ∧ R.Ok ∧ aGives R st av := ⟨_, h, ⟨fun id o h => (by cases h), hl⟩, ⟨[], List.nodup_nil, hr, trivial⟩⟩
end
section
open Go.RowKit
/-- all pairs, by the first one -/
def pairsL (E U : Nat) : List (List AV) := (List.range E).flatMap fun (e : Nat) => (List.range U).map fun (u : Nat) => [eI (e : Int), eI (u : Int)]
theorem pairsL_succ (e U : Nat) : pairsL (e + 1) U = pairsL e U ++ (List.range U).map fun (u : Nat) => [eI (e : Int), eI (u : Int)] := by
  unfold pairsL
  rw [List.range_succ, List.flatMap_append]
  simp
theorem pairsL_pre {E U : Nat} : ∀ {e : Nat}, e ≤ E → pairsL e U <+: pairsL E U := by
  intro e h
  obtain ⟨k, rfl⟩ : ∃ k, E = e + k := ⟨E - e, by omega⟩
  clear h
  induction k with
  | zero => exact List.prefix_rfl
  | succ k ih =>
    rw [← Nat.add_assoc, pairsL_succ]
    exact ih.trans (List.prefix_append ..)
theorem pairsL_pre2 {E U e u : Nat} (he : e < E) (hu : u ≤ U) : pairsL e U ++ ((List.range u).map fun (u : Nat) => [eI (e : Int), eI (u : Int)]) <+: pairsL E U := by
  refine List.IsPrefix.trans ?_ (pairsL_pre (e := e + 1) he)
  rw [pairsL_succ]
  refine List.prefix_append_right_inj _ |>.2 ?_
  refine List.IsPrefix.map _ ?_
  rw [List.prefix_iff_eq_take]
  simp [List.take_range, Nat.min_eq_left hu]
theorem pairsL_snoc (e u U : Nat) : (pairsL e U ++ ((List.range u).map fun (u : Nat) => [eI (e : Int), eI (u : Int)])) ++ [[eI (e : Int), eI (u : Int)]] = pairsL e U ++ ((List.range (u + 1)).map fun (u : Nat) => [eI (e : Int), eI (u : Int)]) := by
  rw [List.range_succ, List.map_append, List.append_assoc]
  rfl
theorem pairsL_mem {E U : Nat} {x : List AV} : x ∈ pairsL E U ↔ ∃ e u : Nat, e < E ∧ u < U ∧ x = [eI (e : Int), eI (u : Int)] := by
  unfold pairsL
  simp only [List.mem_flatMap, List.mem_range, List.mem_map]
  constructor
  · rintro ⟨e, he, u, hu, rfl⟩
    exact ⟨e, u, he, hu, rfl⟩
  · rintro ⟨e, u, he, hu, rfl⟩
    exact ⟨e, he, u, hu, rfl⟩
set_option maxRecDepth 100000 in
set_option maxHeartbeats 8000000 in
theorem pairs1_A (m : Mod) (hl : m.events.length ≤ 1000000) (hl2 : m.users.length ≤ 1000000) : ASeq Try.prog 86 [.rp (eMod m)] (pairsL m.events.length m.users.length) := by
  refine aseq_of_code Try.func86 rfl (by decide) Try.ntmps86 Try.results86 rfl (by kernel_rfl) (by simp [treeL, treeC]) fun l => ?_
  (repeat' (first | simp (maxSteps := 5000000) (implicitDefEqProofs := false) only [ruA, ruB, aEv, aTake, aLoad, aField, aIndex, aLen, aBin, bin2, aUn, un1, aExtract, aConv, ASt.get, aget, ASt.put, aStore, aBox, aAppend, aBuildSlice, aMake, aBuild, aFill, oneParts, allC, aBinS, yv, aCells, oneC, oneCL, treeC, treeL, aLit, aDst, aSrc, appTab, Value.cells, Value.oneCell', envOf, aResL, aOne, ↓reduceIte, reduceCtorEq, forall_const, Nat.reduceLT, Nat.reduceEqDiff, Nat.reduceAdd, Nat.reduceMul, Nat.reduceSub, Nat.reduceLeDiff, Nat.reduceBEq, eq_self, implies_true, ne_eq, dref, dref1, dref2, aExecS, aStoreB, aTakes, aTakeE, aElder, aFrom, aFresh, isLoad, aBuildSlice1, frzs, frz1, ownIds, AV.frz, AV.frzL, frzEnv, AV.shift, AV.shiftL, aFieldV, aSliceW, aSliceO, aSlice, aSliceR, aSliceS, aBd, aMax, frzAVs, frzAV, frzTab, AObj.frz, aMM, aNilS, aMay, tyF_47_5, tyA_41, tyS_41, tyE_41, tyK_41, tyK_3, tyF_47_2, tyA_38, tyS_38, tyE_38, tyK_38, ruI] | (with_reducible refine aIf_split (fun _ => ?_) (fun _ => ?_)) | (with_reducible refine aSel_split (fun _ => ?_) (fun _ => ?_)) | (with_reducible refine aGd_split (fun _ => ?_) (fun _ => ?_))))
  refine iLoop_of (fun g st => ∃ e : Nat, e ≤ m.events.length ∧ g = (pairsL e m.users.length, true) ∧ st = ⟨24, [(0, .c (.func (.yield l) #[] #[])), (1, .rp (eMod m)), (7, eI (m.events.length : Int)), (8, eI (e : Int))], [], 0⟩) (fun g st => m.events.length - slotN st 8) ⟨_, (weak_cut1 (by (first | ((simp only [envIn, tabIn, envLt, tabLt, AObj.lt, AV.lt, AV.ltL, ruW, ASt.get, aget, ASt.put, ↓reduceIte, reduceCtorEq, Nat.reduceLT, Nat.reduceEqDiff, Nat.reduceAdd, Nat.reduceLeDiff, eq_self, implies_true]) <;> (repeat' apply And.intro) <;> first | (rw [wrapK (by omega)]; done) | (simp; done) | omega) | fail))), 0, Nat.zero_le _, rfl, rfl⟩ ?_
  rintro _ _ ⟨e, he, rfl, rfl⟩
  by_cases he2 : e < m.events.length
  · (repeat' (first | simp (maxSteps := 5000000) (implicitDefEqProofs := false) only [ruA, ruB, aEv, aTake, aLoad, aField, aIndex, aLen, aBin, bin2, aUn, un1, aExtract, aConv, ASt.get, aget, ASt.put, aStore, aBox, aAppend, aBuildSlice, aMake, aBuild, aFill, oneParts, allC, aBinS, yv, aCells, oneC, oneCL, treeC, treeL, aLit, aDst, aSrc, appTab, Value.cells, Value.oneCell', envOf, aResL, aOne, ↓reduceIte, reduceCtorEq, forall_const, Nat.reduceLT, Nat.reduceEqDiff, Nat.reduceAdd, Nat.reduceMul, Nat.reduceSub, Nat.reduceLeDiff, Nat.reduceBEq, eq_self, implies_true, ne_eq, dref, dref1, dref2, aExecS, aStoreB, aTakes, aTakeE, aElder, aFrom, aFresh, isLoad, aBuildSlice1, frzs, frz1, ownIds, AV.frz, AV.frzL, frzEnv, AV.shift, AV.shiftL, aFieldV, aSliceW, aSliceO, aSlice, aSliceR, aSliceS, aBd, aMax, frzAVs, frzAV, frzTab, AObj.frz, aMM, aNilS, aMay, tyF_47_5, tyA_41, tyS_41, tyE_41, tyK_41, tyK_3, tyF_47_2, tyA_38, tyS_38, tyE_38, tyK_38, ruI, he2] | (with_reducible refine aIf_split (fun _ => ?_) (fun _ => ?_)) | (with_reducible refine aSel_split (fun _ => ?_) (fun _ => ?_)) | (with_reducible refine aGd_split (fun _ => ?_) (fun _ => ?_))))
    refine iLoop_of (fun g st => ∃ u : Nat, u ≤ m.users.length ∧ g = (pairsL e m.users.length ++ ((List.range u).map fun (u : Nat) => [eI (e : Int), eI (u : Int)]), true) ∧ st = ⟨24, [(0, .c (.func (.yield l) #[] #[])), (1, .rp (eMod m)), (3, eI (e : Int)), (7, eI (m.events.length : Int)), (8, eI (e : Int)), (13, eI (m.users.length : Int)), (14, eI (u : Int))], [], 0⟩) (fun g st => m.users.length - slotN st 14) ⟨_, (weak_cut1 (by (first | ((simp only [envIn, tabIn, envLt, tabLt, AObj.lt, AV.lt, AV.ltL, ruW, ASt.get, aget, ASt.put, ↓reduceIte, reduceCtorEq, Nat.reduceLT, Nat.reduceEqDiff, Nat.reduceAdd, Nat.reduceLeDiff, eq_self, implies_true]) <;> (repeat' apply And.intro) <;> first | (rw [wrapK (by omega)]; done) | (simp; done) | omega) | fail))), 0, Nat.zero_le _, by simp, rfl⟩ ?_
    rintro _ _ ⟨u, hu, rfl, rfl⟩
    by_cases hu2 : u < m.users.length
    · have hp := pairsL_pre2 (u := u + 1) he2 hu2
      rw [← pairsL_snoc] at hp
      (repeat' (first | simp (maxSteps := 5000000) (implicitDefEqProofs := false) only [ruA, ruB, aEv, aTake, aLoad, aField, aIndex, aLen, aBin, bin2, aUn, un1, aExtract, aConv, ASt.get, aget, ASt.put, aStore, aBox, aAppend, aBuildSlice, aMake, aBuild, aFill, oneParts, allC, aBinS, yv, aCells, oneC, oneCL, treeC, treeL, aLit, aDst, aSrc, appTab, Value.cells, Value.oneCell', envOf, aResL, aOne, ↓reduceIte, reduceCtorEq, forall_const, Nat.reduceLT, Nat.reduceEqDiff, Nat.reduceAdd, Nat.reduceMul, Nat.reduceSub, Nat.reduceLeDiff, Nat.reduceBEq, eq_self, implies_true, ne_eq, dref, dref1, dref2, aExecS, aStoreB, aTakes, aTakeE, aElder, aFrom, aFresh, isLoad, aBuildSlice1, frzs, frz1, ownIds, AV.frz, AV.frzL, frzEnv, AV.shift, AV.shiftL, aFieldV, aSliceW, aSliceO, aSlice, aSliceR, aSliceS, aBd, aMax, frzAVs, frzAV, frzTab, AObj.frz, aMM, aNilS, aMay, tyF_47_5, tyA_41, tyS_41, tyE_41, tyK_41, tyK_3, tyF_47_2, tyA_38, tyS_38, tyE_38, tyK_38, ruI, hu2, iYield, treeAL, treeA, treeL, treeC, hp] | (with_reducible refine aIf_split (fun _ => ?_) (fun _ => ?_)) | (with_reducible refine aSel_split (fun _ => ?_) (fun _ => ?_)) | (with_reducible refine aGd_split (fun _ => ?_) (fun _ => ?_))))
      refine ⟨?_, by simp, hp⟩
      exact iRoundI (weak_cut1 (by (first | ((simp only [envIn, tabIn, envLt, tabLt, AObj.lt, AV.lt, AV.ltL, ruW, ASt.get, aget, ASt.put, ↓reduceIte, reduceCtorEq, Nat.reduceLT, Nat.reduceEqDiff, Nat.reduceAdd, Nat.reduceLeDiff, eq_self, implies_true]) <;> (repeat' apply And.intro) <;> first | (rw [wrapK (by omega)]; done) | (simp; done) | omega) | fail))) ⟨u + 1, by omega, by rw [pairsL_snoc], rfl⟩ (by simp only [slotN, ruW, ASt.get, aget, ASt.put, ↓reduceIte, reduceCtorEq, Nat.reduceLT, Nat.reduceEqDiff, Nat.reduceAdd, Nat.reduceLeDiff, eq_self, implies_true]; omega)
    · obtain rfl : u = m.users.length := by omega
      (repeat' (first | simp (maxSteps := 5000000) (implicitDefEqProofs := false) only [ruA, ruB, aEv, aTake, aLoad, aField, aIndex, aLen, aBin, bin2, aUn, un1, aExtract, aConv, ASt.get, aget, ASt.put, aStore, aBox, aAppend, aBuildSlice, aMake, aBuild, aFill, oneParts, allC, aBinS, yv, aCells, oneC, oneCL, treeC, treeL, aLit, aDst, aSrc, appTab, Value.cells, Value.oneCell', envOf, aResL, aOne, ↓reduceIte, reduceCtorEq, forall_const, Nat.reduceLT, Nat.reduceEqDiff, Nat.reduceAdd, Nat.reduceMul, Nat.reduceSub, Nat.reduceLeDiff, Nat.reduceBEq, eq_self, implies_true, ne_eq, dref, dref1, dref2, aExecS, aStoreB, aTakes, aTakeE, aElder, aFrom, aFresh, isLoad, aBuildSlice1, frzs, frz1, ownIds, AV.frz, AV.frzL, frzEnv, AV.shift, AV.shiftL, aFieldV, aSliceW, aSliceO, aSlice, aSliceR, aSliceS, aBd, aMax, frzAVs, frzAV, frzTab, AObj.frz, aMM, aNilS, aMay, tyF_47_5, tyA_41, tyS_41, tyE_41, tyK_41, tyK_3, tyF_47_2, tyA_38, tyS_38, tyE_38, tyK_38, ruI, hu2] | (with_reducible refine aIf_split (fun _ => ?_) (fun _ => ?_)) | (with_reducible refine aSel_split (fun _ => ?_) (fun _ => ?_)) | (with_reducible refine aGd_split (fun _ => ?_) (fun _ => ?_))))
      exact iRoundI (weak_cut1 (by (first | ((simp only [envIn, tabIn, envLt, tabLt, AObj.lt, AV.lt, AV.ltL, ruW, ASt.get, aget, ASt.put, ↓reduceIte, reduceCtorEq, Nat.reduceLT, Nat.reduceEqDiff, Nat.reduceAdd, Nat.reduceLeDiff, eq_self, implies_true]) <;> (repeat' apply And.intro) <;> first | (rw [wrapK (by omega)]; done) | (simp; done) | omega) | fail))) ⟨e + 1, by omega, by rw [pairsL_succ], rfl⟩ (by simp only [slotN, ruW, ASt.get, aget, ASt.put, ↓reduceIte, reduceCtorEq, Nat.reduceLT, Nat.reduceEqDiff, Nat.reduceAdd, Nat.reduceLeDiff, eq_self, implies_true]; omega)
  · obtain rfl : e = m.events.length := by omega
    (repeat' (first | simp (maxSteps := 5000000) (implicitDefEqProofs := false) only [ruA, ruB, aEv, aTake, aLoad, aField, aIndex, aLen, aBin, bin2, aUn, un1, aExtract, aConv, ASt.get, aget, ASt.put, aStore, aBox, aAppend, aBuildSlice, aMake, aBuild, aFill, oneParts, allC, aBinS, yv, aCells, oneC, oneCL, treeC, treeL, aLit, aDst, aSrc, appTab, Value.cells, Value.oneCell', envOf, aResL, aOne, ↓reduceIte, reduceCtorEq, forall_const, Nat.reduceLT, Nat.reduceEqDiff, Nat.reduceAdd, Nat.reduceMul, Nat.reduceSub, Nat.reduceLeDiff, Nat.reduceBEq, eq_self, implies_true, ne_eq, dref, dref1, dref2, aExecS, aStoreB, aTakes, aTakeE, aElder, aFrom, aFresh, isLoad, aBuildSlice1, frzs, frz1, ownIds, AV.frz, AV.frzL, frzEnv, AV.shift, AV.shiftL, aFieldV, aSliceW, aSliceO, aSlice, aSliceR, aSliceS, aBd, aMax, frzAVs, frzAV, frzTab, AObj.frz, aMM, aNilS, aMay, tyF_47_5, tyA_41, tyS_41, tyE_41, tyK_41, tyK_3, tyF_47_2, tyA_38, tyS_38, tyE_38, tyK_38, ruI, he2, iRet] | (with_reducible refine aIf_split (fun _ => ?_) (fun _ => ?_)) | (with_reducible refine aSel_split (fun _ => ?_) (fun _ => ?_)) | (with_reducible refine aGd_split (fun _ => ?_) (fun _ => ?_))))
    exact List.prefix_rfl
set_option maxRecDepth 100000 in
set_option maxHeartbeats 8000000 in
theorem pairs_A (m : Mod) : ADet Try.prog 76 [.agg (eMod m)] ⟨.fn 86 [.rp (eMod m)], [], 0⟩ := by
  refine arel_of_weak mixedT Try.func76 rfl (by decide) Try.ntmps76 Try.results76 rfl ?_
  (repeat' (first | simp (maxSteps := 5000000) (implicitDefEqProofs := false) only [ruA, ruB, aEv, aTake, aLoad, aField, aIndex, aLen, aBin, bin2, aUn, un1, aExtract, aConv, ASt.get, aget, ASt.put, aStore, aBox, aAppend, aBuildSlice, aMake, aBuild, aFill, oneParts, allC, aBinS, yv, aCells, oneC, oneCL, treeC, treeL, aLit, aDst, aSrc, appTab, Value.cells, Value.oneCell', envOf, aResL, aOne, ↓reduceIte, reduceCtorEq, forall_const, Nat.reduceLT, Nat.reduceEqDiff, Nat.reduceAdd, Nat.reduceMul, Nat.reduceSub, Nat.reduceLeDiff, Nat.reduceBEq, eq_self, implies_true, ne_eq, dref, dref1, dref2, aExecS, aStoreB, aTakes, aTakeE, aElder, aFrom, aFresh, isLoad, aBuildSlice1, frzs, frz1, ownIds, AV.frz, AV.frzL, frzEnv, AV.shift, AV.shiftL, aFieldV, aSliceW, aSliceO, aSlice, aSliceR, aSliceS, aBd, aMax, frzAVs, frzAV, frzTab, AObj.frz, aMM, aNilS, aMay] | (with_reducible refine aIf_split (fun _ => ?_) (fun _ => ?_)) | (with_reducible refine aSel_split (fun _ => ?_) (fun _ => ?_)) | (with_reducible refine aGd_split (fun _ => ?_) (fun _ => ?_))))
  refine aTo_mk (((weak_cut1 (by (first | ((simp only [envIn, tabIn, envLt, tabLt, AObj.lt, AV.lt, AV.ltL, ruW, ASt.get, aget, ASt.put, ↓reduceIte, reduceCtorEq, Nat.reduceLT, Nat.reduceEqDiff, Nat.reduceAdd, Nat.reduceLeDiff, eq_self, implies_true]) <;> (repeat' apply And.intro) <;> first | (rw [wrapK (by omega)]; done) | (simp; done) | omega) | fail))) : Weak _ ⟨4, [(2, .fn 86 [.op 0 0 0])], [(0, some (.box 47 (eMod m)))], 1⟩).trans (weak_rp 0 (ty := 47) (cells := eMod m) (by simp [ATab.get_cons]) (by simp [treeL, treeC]) (by simp [treeTab]))) ?_
  simp only [rpzEnv, AV.rpz, AV.rpzL, ↓reduceIte, List.drop_zero]
  simp (maxSteps := 5000000) (implicitDefEqProofs := false) only [ruA, ruB, aEv, aTake, aLoad, aField, aIndex, aLen, aBin, bin2, aUn, un1, aExtract, aConv, ASt.get, aget, ASt.put, aStore, aBox, aAppend, aBuildSlice, aMake, aBuild, aFill, oneParts, allC, aBinS, yv, aCells, oneC, oneCL, treeC, treeL, aLit, aDst, aSrc, appTab, Value.cells, Value.oneCell', envOf, aResL, aOne, ↓reduceIte, reduceCtorEq, forall_const, Nat.reduceLT, Nat.reduceEqDiff, Nat.reduceAdd, Nat.reduceMul, Nat.reduceSub, Nat.reduceLeDiff, Nat.reduceBEq, eq_self, implies_true, ne_eq, dref, dref1, dref2, aExecS, aStoreB, aTakes, aTakeE, aElder, aFrom, aFresh, isLoad, aBuildSlice1, frzs, frz1, ownIds, AV.frz, AV.frzL, frzEnv, AV.shift, AV.shiftL, aFieldV, aSliceW, aSliceO, aSlice, aSliceR, aSliceS, aBd, aMax, frzAVs, frzAV, frzTab, AObj.frz, aMM, aNilS, aMay]
  exact retC rfl (by simp [AV.lt, AV.ltL]) (by simp [AV.ren, AV.renL])
set_option maxRecDepth 100000 in
set_option maxHeartbeats 8000000 in
theorem any_A (m : Mod) (s : St) (hl : m.events.length ≤ 1000000) (hl2 : m.users.length ≤ 1000000) (hl3 : m.miles.length ≤ 1000000) (hl4 : m.sods.length ≤ 1000000) : ADet Try.prog 75 [.agg (eMod m), .agg (eSt s)] (val (.bool (anyM m s))) := by
  refine adet_of_code mixedT Try.func75 rfl (by decide) Try.ntmps75 Try.results75 rfl (val_ok _) ?_
  (repeat' (first | simp (maxSteps := 5000000) (implicitDefEqProofs := false) only [ruA, ruB, aEv, aTake, aLoad, aField, aIndex, aLen, aBin, bin2, aUn, un1, aExtract, aConv, ASt.get, aget, ASt.put, aStore, aBox, aAppend, aBuildSlice, aMake, aBuild, aFill, oneParts, allC, aBinS, yv, aCells, oneC, oneCL, treeC, treeL, aLit, aDst, aSrc, appTab, Value.cells, Value.oneCell', envOf, aResL, aOne, ↓reduceIte, reduceCtorEq, forall_const, Nat.reduceLT, Nat.reduceEqDiff, Nat.reduceAdd, Nat.reduceMul, Nat.reduceSub, Nat.reduceLeDiff, Nat.reduceBEq, eq_self, implies_true, ne_eq, dref, dref1, dref2, aExecS, aStoreB, aTakes, aTakeE, aElder, aFrom, aFresh, isLoad, aBuildSlice1, frzs, frz1, ownIds, AV.frz, AV.frzL, frzEnv, AV.shift, AV.shiftL, aFieldV, aSliceW, aSliceO, aSlice, aSliceR, aSliceS, aBd, aMax, frzAVs, frzAV, frzTab, AObj.frz, aMM, aNilS, aMay, tyA_4, tyS_4, tyZ_4, tyA_47, tyS_47, tyA_26, tyS_26] | (with_reducible refine aIf_split (fun _ => ?_) (fun _ => ?_)) | (with_reducible refine aSel_split (fun _ => ?_) (fun _ => ?_)) | (with_reducible refine aGd_split (fun _ => ?_) (fun _ => ?_)) | (with_reducible refine aDraw_quiet (by kernel_rfl) ?_) | ((with_reducible apply callT (g := 76)); exact (pairs_A m); exact (.inl (by simp [roL, roA, treeL, treeC])))))
  refine range_ok mixedT (fun pre st => (∀ e u : Nat, [eI (e : Int), eI (u : Int)] ∈ pre → enabledM m s (e : Int) (u : Int) = false) ∧ st = ⟨16, [(2, .op 0 0 0), (3, .op 1 0 0), (4, .op 2 0 0)], [(0, some (.box 47 (eMod m))), (1, some (.box 26 (eSt s))), (2, some (.box 4 [eB false]))], 3⟩)
    (fun c pre st => c = .ret ∧ anyM m s = true ∧ st = ⟨16, [(4, .op 2 0 0)], [(2, some (.box 4 [eB true]))], 3⟩) (by simp (maxSteps := 5000000) (implicitDefEqProofs := false) only [ruA, ruB, aEv, aTake, aLoad, aField, aIndex, aLen, aBin, bin2, aUn, un1, aExtract, aConv, ASt.get, aget, ASt.put, aStore, aBox, aAppend, aBuildSlice, aMake, aBuild, aFill, oneParts, allC, aBinS, yv, aCells, oneC, oneCL, treeC, treeL, aLit, aDst, aSrc, appTab, Value.cells, Value.oneCell', envOf, aResL, aOne, ↓reduceIte, reduceCtorEq, forall_const, Nat.reduceLT, Nat.reduceEqDiff, Nat.reduceAdd, Nat.reduceMul, Nat.reduceSub, Nat.reduceLeDiff, Nat.reduceBEq, eq_self, implies_true, ne_eq, dref, dref1, dref2, aExecS, aStoreB, aTakes, aTakeE, aElder, aFrom, aFresh, isLoad, aBuildSlice1, frzs, frz1, ownIds, AV.frz, AV.frzL, frzEnv, AV.shift, AV.shiftL, aFieldV, aSliceW, aSliceO, aSlice, aSliceR, aSliceS, aBd, aMax, frzAVs, frzAV, frzTab, AObj.frz, aMM, aNilS, aMay, tyA_4, tyS_4, tyZ_4, tyA_47, tyS_47, tyA_26, tyS_26]) (by simp [treeL, treeC]) (pairs1_A m hl hl2) (fun x hx => by obtain ⟨e, u, _, _, rfl⟩ := pairsL_mem.1 hx; rfl) (by kernel_rfl) (by kernel_rfl) (aTo_mk (weak_cut1 (by (first | ((simp only [envIn, tabIn, envLt, tabLt, AObj.lt, AV.lt, AV.ltL, ruW, ASt.get, aget, ASt.put, ↓reduceIte, reduceCtorEq, Nat.reduceLT, Nat.reduceEqDiff, Nat.reduceAdd, Nat.reduceLeDiff, eq_self, implies_true]) <;> (repeat' apply And.intro) <;> first | (rw [wrapK (by omega)]; done) | (simp; done) | omega) | fail))) ⟨by simp, rfl⟩) ?_ ?_ ?_
  · rintro pre x _ hp ⟨hpre, rfl⟩
    obtain ⟨e, u, he, hu, rfl⟩ := pairsL_mem.1 (hp.subset (show x ∈ pre ++ [x] by simp))
    (repeat' (first | simp (maxSteps := 5000000) (implicitDefEqProofs := false) only [ruA, ruB, aEv, aTake, aLoad, aField, aIndex, aLen, aBin, bin2, aUn, un1, aExtract, aConv, ASt.get, aget, ASt.put, aStore, aBox, aAppend, aBuildSlice, aMake, aBuild, aFill, oneParts, allC, aBinS, yv, aCells, oneC, oneCL, treeC, treeL, aLit, aDst, aSrc, appTab, Value.cells, Value.oneCell', envOf, aResL, aOne, ↓reduceIte, reduceCtorEq, forall_const, Nat.reduceLT, Nat.reduceEqDiff, Nat.reduceAdd, Nat.reduceMul, Nat.reduceSub, Nat.reduceLeDiff, Nat.reduceBEq, eq_self, implies_true, ne_eq, dref, dref1, dref2, aExecS, aStoreB, aTakes, aTakeE, aElder, aFrom, aFresh, isLoad, aBuildSlice1, frzs, frz1, ownIds, AV.frz, AV.frzL, frzEnv, AV.shift, AV.shiftL, aFieldV, aSliceW, aSliceO, aSlice, aSliceR, aSliceS, aBd, aMax, frzAVs, frzAV, frzTab, AObj.frz, aMM, aNilS, aMay, tyA_4, tyS_4, tyZ_4, tyA_47, tyS_47, tyA_26, tyS_26, ruL] | (with_reducible refine aIf_split (fun _ => ?_) (fun _ => ?_)) | (with_reducible refine aSel_split (fun _ => ?_) (fun _ => ?_)) | (with_reducible refine aGd_split (fun _ => ?_) (fun _ => ?_)) | (with_reducible refine aDraw_quiet (by kernel_rfl) ?_) | ((with_reducible apply callV (g := 85)); exact (enabled_A m s (e : Int) (u : Int) (by omega) (by omega))) | ((with_reducible apply callD (g := 85)); exact (enabled_A m s (e : Int) (u : Int) (by omega) (by omega)))))
    · rename_i hen
      exact aTo_mk (weak_cut1 (by (first | ((simp only [envIn, tabIn, envLt, tabLt, AObj.lt, AV.lt, AV.ltL, ruW, ASt.get, aget, ASt.put, ↓reduceIte, reduceCtorEq, Nat.reduceLT, Nat.reduceEqDiff, Nat.reduceAdd, Nat.reduceLeDiff, eq_self, implies_true]) <;> (repeat' apply And.intro) <;> first | (rw [wrapK (by omega)]; done) | (simp; done) | omega) | fail))) ⟨(anyN_iff _ _).2 ⟨e, he, (anyN_iff _ _).2 ⟨u, hu, hen⟩⟩, rfl⟩
    · rename_i hen
      refine aTo_mk (weak_cut1 (by (first | ((simp only [envIn, tabIn, envLt, tabLt, AObj.lt, AV.lt, AV.ltL, ruW, ASt.get, aget, ASt.put, ↓reduceIte, reduceCtorEq, Nat.reduceLT, Nat.reduceEqDiff, Nat.reduceAdd, Nat.reduceLeDiff, eq_self, implies_true]) <;> (repeat' apply And.intro) <;> first | (rw [wrapK (by omega)]; done) | (simp; done) | omega) | fail))) ⟨fun e' u' hm => ?_, rfl⟩
      rcases List.mem_append.1 hm with hm | hm
      · exact hpre e' u' hm
      · simp at hm
        obtain ⟨h1, h2⟩ := hm
        rw [h1, h2]
        exact hen
  · rintro _ ⟨hpre, rfl⟩
    (repeat' (first | simp (maxSteps := 5000000) (implicitDefEqProofs := false) only [ruA, ruB, aEv, aTake, aLoad, aField, aIndex, aLen, aBin, bin2, aUn, un1, aExtract, aConv, ASt.get, aget, ASt.put, aStore, aBox, aAppend, aBuildSlice, aMake, aBuild, aFill, oneParts, allC, aBinS, yv, aCells, oneC, oneCL, treeC, treeL, aLit, aDst, aSrc, appTab, Value.cells, Value.oneCell', envOf, aResL, aOne, ↓reduceIte, reduceCtorEq, forall_const, Nat.reduceLT, Nat.reduceEqDiff, Nat.reduceAdd, Nat.reduceMul, Nat.reduceSub, Nat.reduceLeDiff, Nat.reduceBEq, eq_self, implies_true, ne_eq, dref, dref1, dref2, aExecS, aStoreB, aTakes, aTakeE, aElder, aFrom, aFresh, isLoad, aBuildSlice1, frzs, frz1, ownIds, AV.frz, AV.frzL, frzEnv, AV.shift, AV.shiftL, aFieldV, aSliceW, aSliceO, aSlice, aSliceR, aSliceS, aBd, aMax, frzAVs, frzAV, frzTab, AObj.frz, aMM, aNilS, aMay, tyA_4, tyS_4, tyZ_4, tyA_47, tyS_47, tyA_26, tyS_26, ruL] | (with_reducible refine aIf_split (fun _ => ?_) (fun _ => ?_)) | (with_reducible refine aSel_split (fun _ => ?_) (fun _ => ?_)) | (with_reducible refine aGd_split (fun _ => ?_) (fun _ => ?_)) | (with_reducible refine aDraw_quiet (by kernel_rfl) ?_)))
    symm
    rw [Bool.eq_false_iff]
    intro ha
    obtain ⟨e, he, ha⟩ := (anyN_iff _ _).1 ha
    obtain ⟨u, hu, ha⟩ := (anyN_iff _ _).1 ha
    rw [hpre e u (pairsL_mem.2 ⟨e, u, he, hu, rfl⟩)] at ha
    cases ha
  · rintro _ pre _ hp ⟨rfl, ha, rfl⟩
    (repeat' (first | simp (maxSteps := 5000000) (implicitDefEqProofs := false) only [ruA, ruB, aEv, aTake, aLoad, aField, aIndex, aLen, aBin, bin2, aUn, un1, aExtract, aConv, ASt.get, aget, ASt.put, aStore, aBox, aAppend, aBuildSlice, aMake, aBuild, aFill, oneParts, allC, aBinS, yv, aCells, oneC, oneCL, treeC, treeL, aLit, aDst, aSrc, appTab, Value.cells, Value.oneCell', envOf, aResL, aOne, ↓reduceIte, reduceCtorEq, forall_const, Nat.reduceLT, Nat.reduceEqDiff, Nat.reduceAdd, Nat.reduceMul, Nat.reduceSub, Nat.reduceLeDiff, Nat.reduceBEq, eq_self, implies_true, ne_eq, dref, dref1, dref2, aExecS, aStoreB, aTakes, aTakeE, aElder, aFrom, aFresh, isLoad, aBuildSlice1, frzs, frz1, ownIds, AV.frz, AV.frzL, frzEnv, AV.shift, AV.shiftL, aFieldV, aSliceW, aSliceO, aSlice, aSliceR, aSliceS, aBd, aMax, frzAVs, frzAV, frzTab, AObj.frz, aMM, aNilS, aMay, tyA_4, tyS_4, tyZ_4, tyA_47, tyS_47, tyA_26, tyS_26, ruL] | (with_reducible refine aIf_split (fun _ => ?_) (fun _ => ?_)) | (with_reducible refine aSel_split (fun _ => ?_) (fun _ => ?_)) | (with_reducible refine aGd_split (fun _ => ?_) (fun _ => ?_)) | (with_reducible refine aDraw_quiet (by kernel_rfl) ?_)))
    exact ha.symm
end
section
open Go.RowKit
theorem firstI_nat (n : Nat) : firstI (n : Int) = ((2 ^ (min n 31) - 1 : Nat) : Int) := by
  have h1 : (max 0 (min (n : Int) 31)).toNat = min n 31 := by omega
  have h2 : 0 < 2 ^ (min n 31) := Nat.two_pow_pos _
  unfold firstI
  rw [h1]
  generalize min n 31 = k at *
  have : ((2 ^ k : Nat) : Int) = (2 : Int) ^ k := by simp
  omega
theorem firstI_31 (n : Nat) : firstI (n : Int) < 2147483648 := by
  rw [firstI_nat]
  have : 2 ^ (min n 31) ≤ 2 ^ 31 := Nat.pow_le_pow_right (by omega) (by omega)
  have h2 : 0 < 2 ^ (min n 31) := Nat.two_pow_pos _
  omega
end
section
open Go.RowKit
theorem can_A (m : Mod) (s : St) (event : Int) (hl : m.miles.length ≤ 1000000) (hl2 : m.sods.length ≤ 1000000) (hl3 : m.users.length ≤ 1000000) : ADet Try.prog 54 [.agg (eMod m), .agg (eSt s), eI event] (val (.bool (decide (0 < ((whoM m s event).length : Int))))) := by
  refine adet_of_code mixedT Try.func54 rfl (by decide) Try.ntmps54 Try.results54 rfl (val_ok _) ?_
  (repeat' (first | simp (maxSteps := 5000000) (implicitDefEqProofs := false) only [ruA, ruB, aEv, aTake, aLoad, aField, aIndex, aLen, aBin, bin2, aUn, un1, aExtract, aConv, ASt.get, aget, ASt.put, aStore, aBox, aAppend, aBuildSlice, aMake, aBuild, aFill, oneParts, allC, aBinS, yv, aCells, oneC, oneCL, treeC, treeL, aLit, aDst, aSrc, appTab, Value.cells, Value.oneCell', envOf, aResL, aOne, ↓reduceIte, reduceCtorEq, forall_const, Nat.reduceLT, Nat.reduceEqDiff, Nat.reduceAdd, Nat.reduceMul, Nat.reduceSub, Nat.reduceLeDiff, Nat.reduceBEq, eq_self, implies_true, ne_eq, dref, dref1, dref2, aExecS, aStoreB, aTakes, aTakeE, aElder, aFrom, aFresh, isLoad, aBuildSlice1, frzs, frz1, ownIds, AV.frz, AV.frzL, frzEnv, AV.shift, AV.shiftL, aFieldV, aSliceW, aSliceO, aSlice, aSliceR, aSliceS, aBd, aMax, frzAVs, frzAV, frzTab, AObj.frz, aMM, aNilS, aMay, tyA_47, tyS_47, tyA_26, tyS_26, tyE_24, tyK_24, tyK_3, List.length_map] | (with_reducible refine aIf_split (fun _ => ?_) (fun _ => ?_)) | (with_reducible refine aSel_split (fun _ => ?_) (fun _ => ?_)) | (with_reducible refine aGd_split (fun _ => ?_) (fun _ => ?_)) | (with_reducible refine aDraw_quiet (by kernel_rfl) ?_) | ((with_reducible apply callO (g := 73)); exact (who_A m s event hl hl2 hl3); exact (.inr ints_plain))))
noncomputable def openM (m : Mod) (s : St) : Bool := anyN (fun i => hasB s.opn (i : Int)) m.stages.length
noncomputable def freeAny (m : Mod) (s : St) : Bool := anyN (fun e => anyN (fun u => freeM m s (e : Int) (u : Int)) m.users.length) m.events.length
noncomputable def stuckM (m : Mod) (s : St) : Bool := openM m s && freeAny m s && !anyM m s
theorem and_nat (a : Int) (b : Nat) (hb : b < 2147483648) : bits .and .i64 a (b : Int) = ((low a &&& b : Nat) : Int) := by
  show IntKind.i64.wrap ((BitVec.ofInt 64 a &&& BitVec.ofInt 64 (b : Int)).toNat : Int) = _
  have hbb : b &&& (2 ^ 31 - 1) = b := by rw [Nat.and_two_pow_sub_one_eq_mod]; omega
  have h : (BitVec.ofInt 64 a &&& BitVec.ofInt 64 (b : Int)).toNat = low a &&& b := by
    rw [BitVec.toNat_and, ofInt_nat64 b (by omega), BitVec.toNat_ofInt]
    have e : low a = (a % ((2 ^ 64 : Nat) : Int)).toNat &&& (2 ^ 31 - 1) := by
      rw [Nat.and_two_pow_sub_one_eq_mod]
      unfold low
      omega
    rw [e, Nat.and_assoc, Nat.and_comm (2 ^ 31 - 1) b, hbb]
  rw [h]
  exact wrap_nat _ (Nat.lt_of_le_of_lt Nat.and_le_right (by omega))
theorem open_and (m : Mod) (s : St) : (bits .and .i64 s.opn (firstI (m.stages.length : Int)) == 0) = !openM m s := by
  rw [firstI_nat, and_nat _ _ (by have := firstI_31 m.stages.length; rw [firstI_nat] at this; omega)]
  rw [Bool.eq_iff_iff]
  have key : (low s.opn &&& (2 ^ min m.stages.length 31 - 1) = 0) ↔ ¬ openM m s = true := by
    unfold openM
    rw [anyN_iff]
    constructor
    · rintro h ⟨i, hi, hh⟩
      by_cases h31 : i < 31
      · rw [hasB_low _ _ h31] at hh
        have : (low s.opn &&& (2 ^ min m.stages.length 31 - 1)).testBit i = true := by
          rw [Nat.testBit_and, hh, Nat.testBit_two_pow_sub_one]
          simp
          omega
        rw [h] at this
        simp at this
      · rw [hasB_out _ _ (by omega)] at hh
        cases hh
    · intro h
      apply Nat.eq_of_testBit_eq
      intro i
      rw [Nat.testBit_and, Nat.testBit_two_pow_sub_one, Nat.zero_testBit]
      by_cases hi : i < min m.stages.length 31
      · cases hb : (low s.opn).testBit i
        · rfl
        · exact absurd ⟨i, by omega, by rw [hasB_low _ _ (by omega), hb]⟩ h
      · simp [hi]
  rw [beq_iff_eq, Bool.not_eq_true', ← Bool.not_eq_true, ← key]
  omega
set_option maxRecDepth 100000 in
set_option maxHeartbeats 8000000 in
theorem stuck_A (m : Mod) (s : St) (hl : m.events.length ≤ 1000000) (hl2 : m.users.length ≤ 1000000) (hl3 : m.miles.length ≤ 1000000) (hl4 : m.sods.length ≤ 1000000) : ADet Try.prog 56 [.agg (eMod m), .agg (eSt s)] (val (.bool (stuckM m s))) := by
  refine adet_of_code mixedT Try.func56 rfl (by decide) Try.ntmps56 Try.results56 rfl (val_ok _) ?_
  have ho := open_and m s
  by_cases h1 : openM m s = true
  · have hn : (!openM m s) = false := by rw [h1]; rfl
    by_cases h2 : anyM m s = true
    · have hv : stuckM m s = false := by unfold stuckM; rw [h2]; simp
      have ha := any_A m s hl hl2 hl3 hl4
      rw [h2] at ha
      (repeat' (first | simp (maxSteps := 5000000) (implicitDefEqProofs := false) only [ruA, ruB, aEv, aTake, aLoad, aField, aIndex, aLen, aBin, bin2, aUn, un1, aExtract, aConv, ASt.get, aget, ASt.put, aStore, aBox, aAppend, aBuildSlice, aMake, aBuild, aFill, oneParts, allC, aBinS, yv, aCells, oneC, oneCL, treeC, treeL, aLit, aDst, aSrc, appTab, Value.cells, Value.oneCell', envOf, aResL, aOne, ↓reduceIte, reduceCtorEq, forall_const, Nat.reduceLT, Nat.reduceEqDiff, Nat.reduceAdd, Nat.reduceMul, Nat.reduceSub, Nat.reduceLeDiff, Nat.reduceBEq, eq_self, implies_true, ne_eq, dref, dref1, dref2, aExecS, aStoreB, aTakes, aTakeE, aElder, aFrom, aFresh, isLoad, aBuildSlice1, frzs, frz1, ownIds, AV.frz, AV.frzL, frzEnv, AV.shift, AV.shiftL, aFieldV, aSliceW, aSliceO, aSlice, aSliceR, aSliceS, aBd, aMax, frzAVs, frzAV, frzTab, AObj.frz, aMM, aNilS, aMay, tyA_4, tyS_4, tyZ_4, tyF_26_1, tyA_3, tyS_3, tyF_47_4, tyA_40, tyS_40, tyE_40, tyK_40, tyK_3, tyA_47, tyS_47, tyA_26, tyS_26, ho, hn, hv] | (with_reducible refine aIf_split (fun _ => ?_) (fun _ => ?_)) | (with_reducible refine aSel_split (fun _ => ?_) (fun _ => ?_)) | (with_reducible refine aGd_split (fun _ => ?_) (fun _ => ?_)) | (with_reducible refine aDraw_quiet (by kernel_rfl) ?_) | ((with_reducible apply callV (g := 74)); exact (first_A (m.stages.length : Int))) | ((with_reducible apply callD (g := 74)); exact (first_A (m.stages.length : Int))) | ((with_reducible apply callV); exact (ha)) | ((with_reducible apply callD); exact (ha))))
    · have h2 : anyM m s = false := by simpa using h2
      have hv : stuckM m s = freeAny m s := by unfold stuckM; rw [h1, h2]; simp
      have ha := any_A m s hl hl2 hl3 hl4
      rw [h2] at ha
      rw [hv]
      (repeat' (first | simp (maxSteps := 5000000) (implicitDefEqProofs := false) only [ruA, ruB, aEv, aTake, aLoad, aField, aIndex, aLen, aBin, bin2, aUn, un1, aExtract, aConv, ASt.get, aget, ASt.put, aStore, aBox, aAppend, aBuildSlice, aMake, aBuild, aFill, oneParts, allC, aBinS, yv, aCells, oneC, oneCL, treeC, treeL, aLit, aDst, aSrc, appTab, Value.cells, Value.oneCell', envOf, aResL, aOne, ↓reduceIte, reduceCtorEq, forall_const, Nat.reduceLT, Nat.reduceEqDiff, Nat.reduceAdd, Nat.reduceMul, Nat.reduceSub, Nat.reduceLeDiff, Nat.reduceBEq, eq_self, implies_true, ne_eq, dref, dref1, dref2, aExecS, aStoreB, aTakes, aTakeE, aElder, aFrom, aFresh, isLoad, aBuildSlice1, frzs, frz1, ownIds, AV.frz, AV.frzL, frzEnv, AV.shift, AV.shiftL, aFieldV, aSliceW, aSliceO, aSlice, aSliceR, aSliceS, aBd, aMax, frzAVs, frzAV, frzTab, AObj.frz, aMM, aNilS, aMay, tyA_4, tyS_4, tyZ_4, tyF_26_1, tyA_3, tyS_3, tyF_47_4, tyA_40, tyS_40, tyE_40, tyK_40, tyK_3, tyA_47, tyS_47, tyA_26, tyS_26, ho, hn] | (with_reducible refine aIf_split (fun _ => ?_) (fun _ => ?_)) | (with_reducible refine aSel_split (fun _ => ?_) (fun _ => ?_)) | (with_reducible refine aGd_split (fun _ => ?_) (fun _ => ?_)) | (with_reducible refine aDraw_quiet (by kernel_rfl) ?_) | ((with_reducible apply callV (g := 74)); exact (first_A (m.stages.length : Int))) | ((with_reducible apply callD (g := 74)); exact (first_A (m.stages.length : Int))) | ((with_reducible apply callV); exact (ha)) | ((with_reducible apply callD); exact (ha)) | ((with_reducible apply callT (g := 76)); exact (pairs_A m); exact (.inl (by simp [roL, roA, treeL, treeC])))))
      refine range_ok mixedT (fun pre st => (∀ e u : Nat, [eI (e : Int), eI (u : Int)] ∈ pre → freeM m s (e : Int) (u : Int) = false) ∧ st = ⟨29, [(2, .op 0 0 0), (3, .op 1 0 0), (4, .op 2 0 0)], [(0, some (.box 47 (eMod m))), (1, some (.box 26 (eSt s))), (2, some (.box 4 [eB false]))], 3⟩)
        (fun c pre st => c = .ret ∧ freeAny m s = true ∧ st = ⟨29, [(4, .op 2 0 0)], [(2, some (.box 4 [eB true]))], 3⟩) (by simp (maxSteps := 5000000) (implicitDefEqProofs := false) only [ruA, ruB, aEv, aTake, aLoad, aField, aIndex, aLen, aBin, bin2, aUn, un1, aExtract, aConv, ASt.get, aget, ASt.put, aStore, aBox, aAppend, aBuildSlice, aMake, aBuild, aFill, oneParts, allC, aBinS, yv, aCells, oneC, oneCL, treeC, treeL, aLit, aDst, aSrc, appTab, Value.cells, Value.oneCell', envOf, aResL, aOne, ↓reduceIte, reduceCtorEq, forall_const, Nat.reduceLT, Nat.reduceEqDiff, Nat.reduceAdd, Nat.reduceMul, Nat.reduceSub, Nat.reduceLeDiff, Nat.reduceBEq, eq_self, implies_true, ne_eq, dref, dref1, dref2, aExecS, aStoreB, aTakes, aTakeE, aElder, aFrom, aFresh, isLoad, aBuildSlice1, frzs, frz1, ownIds, AV.frz, AV.frzL, frzEnv, AV.shift, AV.shiftL, aFieldV, aSliceW, aSliceO, aSlice, aSliceR, aSliceS, aBd, aMax, frzAVs, frzAV, frzTab, AObj.frz, aMM, aNilS, aMay, tyA_4, tyS_4, tyZ_4, tyF_26_1, tyA_3, tyS_3, tyF_47_4, tyA_40, tyS_40, tyE_40, tyK_40, tyK_3, tyA_47, tyS_47, tyA_26, tyS_26]) (by simp [treeL, treeC]) (pairs1_A m hl hl2) (fun x hx => by obtain ⟨e, u, _, _, rfl⟩ := pairsL_mem.1 hx; rfl) (by kernel_rfl) (by kernel_rfl) (aTo_mk (weak_cut1 (by (first | ((simp only [envIn, tabIn, envLt, tabLt, AObj.lt, AV.lt, AV.ltL, ruW, ASt.get, aget, ASt.put, ↓reduceIte, reduceCtorEq, Nat.reduceLT, Nat.reduceEqDiff, Nat.reduceAdd, Nat.reduceLeDiff, eq_self, implies_true]) <;> (repeat' apply And.intro) <;> first | (rw [wrapK (by omega)]; done) | (simp; done) | omega) | fail))) ⟨by simp, rfl⟩) ?_ ?_ ?_
      · rintro pre x _ hp ⟨hpre, rfl⟩
        obtain ⟨e, u, he, hu, rfl⟩ := pairsL_mem.1 (hp.subset (show x ∈ pre ++ [x] by simp))
        (repeat' (first | simp (maxSteps := 5000000) (implicitDefEqProofs := false) only [ruA, ruB, aEv, aTake, aLoad, aField, aIndex, aLen, aBin, bin2, aUn, un1, aExtract, aConv, ASt.get, aget, ASt.put, aStore, aBox, aAppend, aBuildSlice, aMake, aBuild, aFill, oneParts, allC, aBinS, yv, aCells, oneC, oneCL, treeC, treeL, aLit, aDst, aSrc, appTab, Value.cells, Value.oneCell', envOf, aResL, aOne, ↓reduceIte, reduceCtorEq, forall_const, Nat.reduceLT, Nat.reduceEqDiff, Nat.reduceAdd, Nat.reduceMul, Nat.reduceSub, Nat.reduceLeDiff, Nat.reduceBEq, eq_self, implies_true, ne_eq, dref, dref1, dref2, aExecS, aStoreB, aTakes, aTakeE, aElder, aFrom, aFresh, isLoad, aBuildSlice1, frzs, frz1, ownIds, AV.frz, AV.frzL, frzEnv, AV.shift, AV.shiftL, aFieldV, aSliceW, aSliceO, aSlice, aSliceR, aSliceS, aBd, aMax, frzAVs, frzAV, frzTab, AObj.frz, aMM, aNilS, aMay, tyA_4, tyS_4, tyZ_4, tyF_26_1, tyA_3, tyS_3, tyF_47_4, tyA_40, tyS_40, tyE_40, tyK_40, tyK_3, tyA_47, tyS_47, tyA_26, tyS_26, ruL] | (with_reducible refine aIf_split (fun _ => ?_) (fun _ => ?_)) | (with_reducible refine aSel_split (fun _ => ?_) (fun _ => ?_)) | (with_reducible refine aGd_split (fun _ => ?_) (fun _ => ?_)) | (with_reducible refine aDraw_quiet (by kernel_rfl) ?_) | ((with_reducible apply callV (g := 77)); exact (free_A m s (e : Int) (u : Int) hl3)) | ((with_reducible apply callD (g := 77)); exact (free_A m s (e : Int) (u : Int) hl3))))
        · rename_i hen
          exact aTo_mk (weak_cut1 (by (first | ((simp only [envIn, tabIn, envLt, tabLt, AObj.lt, AV.lt, AV.ltL, ruW, ASt.get, aget, ASt.put, ↓reduceIte, reduceCtorEq, Nat.reduceLT, Nat.reduceEqDiff, Nat.reduceAdd, Nat.reduceLeDiff, eq_self, implies_true]) <;> (repeat' apply And.intro) <;> first | (rw [wrapK (by omega)]; done) | (simp; done) | omega) | fail))) ⟨(anyN_iff _ _).2 ⟨e, he, (anyN_iff _ _).2 ⟨u, hu, hen⟩⟩, rfl⟩
        · rename_i hen
          refine aTo_mk (weak_cut1 (by (first | ((simp only [envIn, tabIn, envLt, tabLt, AObj.lt, AV.lt, AV.ltL, ruW, ASt.get, aget, ASt.put, ↓reduceIte, reduceCtorEq, Nat.reduceLT, Nat.reduceEqDiff, Nat.reduceAdd, Nat.reduceLeDiff, eq_self, implies_true]) <;> (repeat' apply And.intro) <;> first | (rw [wrapK (by omega)]; done) | (simp; done) | omega) | fail))) ⟨fun e' u' hm => ?_, rfl⟩
          rcases List.mem_append.1 hm with hm | hm
          · exact hpre e' u' hm
          · simp at hm
            obtain ⟨h1, h2⟩ := hm
            rw [h1, h2]
            exact hen
      · rintro _ ⟨hpre, rfl⟩
        (repeat' (first | simp (maxSteps := 5000000) (implicitDefEqProofs := false) only [ruA, ruB, aEv, aTake, aLoad, aField, aIndex, aLen, aBin, bin2, aUn, un1, aExtract, aConv, ASt.get, aget, ASt.put, aStore, aBox, aAppend, aBuildSlice, aMake, aBuild, aFill, oneParts, allC, aBinS, yv, aCells, oneC, oneCL, treeC, treeL, aLit, aDst, aSrc, appTab, Value.cells, Value.oneCell', envOf, aResL, aOne, ↓reduceIte, reduceCtorEq, forall_const, Nat.reduceLT, Nat.reduceEqDiff, Nat.reduceAdd, Nat.reduceMul, Nat.reduceSub, Nat.reduceLeDiff, Nat.reduceBEq, eq_self, implies_true, ne_eq, dref, dref1, dref2, aExecS, aStoreB, aTakes, aTakeE, aElder, aFrom, aFresh, isLoad, aBuildSlice1, frzs, frz1, ownIds, AV.frz, AV.frzL, frzEnv, AV.shift, AV.shiftL, aFieldV, aSliceW, aSliceO, aSlice, aSliceR, aSliceS, aBd, aMax, frzAVs, frzAV, frzTab, AObj.frz, aMM, aNilS, aMay, tyA_4, tyS_4, tyZ_4, tyF_26_1, tyA_3, tyS_3, tyF_47_4, tyA_40, tyS_40, tyE_40, tyK_40, tyK_3, tyA_47, tyS_47, tyA_26, tyS_26, ruL] | (with_reducible refine aIf_split (fun _ => ?_) (fun _ => ?_)) | (with_reducible refine aSel_split (fun _ => ?_) (fun _ => ?_)) | (with_reducible refine aGd_split (fun _ => ?_) (fun _ => ?_)) | (with_reducible refine aDraw_quiet (by kernel_rfl) ?_)))
        symm
        rw [Bool.eq_false_iff]
        intro ha
        obtain ⟨e, he, ha⟩ := (anyN_iff _ _).1 ha
        obtain ⟨u, hu, ha⟩ := (anyN_iff _ _).1 ha
        rw [hpre e u (pairsL_mem.2 ⟨e, u, he, hu, rfl⟩)] at ha
        cases ha
      · rintro _ pre _ hp ⟨rfl, ha, rfl⟩
        (repeat' (first | simp (maxSteps := 5000000) (implicitDefEqProofs := false) only [ruA, ruB, aEv, aTake, aLoad, aField, aIndex, aLen, aBin, bin2, aUn, un1, aExtract, aConv, ASt.get, aget, ASt.put, aStore, aBox, aAppend, aBuildSlice, aMake, aBuild, aFill, oneParts, allC, aBinS, yv, aCells, oneC, oneCL, treeC, treeL, aLit, aDst, aSrc, appTab, Value.cells, Value.oneCell', envOf, aResL, aOne, ↓reduceIte, reduceCtorEq, forall_const, Nat.reduceLT, Nat.reduceEqDiff, Nat.reduceAdd, Nat.reduceMul, Nat.reduceSub, Nat.reduceLeDiff, Nat.reduceBEq, eq_self, implies_true, ne_eq, dref, dref1, dref2, aExecS, aStoreB, aTakes, aTakeE, aElder, aFrom, aFresh, isLoad, aBuildSlice1, frzs, frz1, ownIds, AV.frz, AV.frzL, frzEnv, AV.shift, AV.shiftL, aFieldV, aSliceW, aSliceO, aSlice, aSliceR, aSliceS, aBd, aMax, frzAVs, frzAV, frzTab, AObj.frz, aMM, aNilS, aMay, tyA_4, tyS_4, tyZ_4, tyF_26_1, tyA_3, tyS_3, tyF_47_4, tyA_40, tyS_40, tyE_40, tyK_40, tyK_3, tyA_47, tyS_47, tyA_26, tyS_26, ruL] | (with_reducible refine aIf_split (fun _ => ?_) (fun _ => ?_)) | (with_reducible refine aSel_split (fun _ => ?_) (fun _ => ?_)) | (with_reducible refine aGd_split (fun _ => ?_) (fun _ => ?_)) | (with_reducible refine aDraw_quiet (by kernel_rfl) ?_)))
        exact ha.symm
  · have h1 : openM m s = false := by simpa using h1
    have hn : (!openM m s) = true := by rw [h1]; rfl
    have hv : stuckM m s = false := by unfold stuckM; rw [h1]; simp
    (repeat' (first | simp (maxSteps := 5000000) (implicitDefEqProofs := false) only [ruA, ruB, aEv, aTake, aLoad, aField, aIndex, aLen, aBin, bin2, aUn, un1, aExtract, aConv, ASt.get, aget, ASt.put, aStore, aBox, aAppend, aBuildSlice, aMake, aBuild, aFill, oneParts, allC, aBinS, yv, aCells, oneC, oneCL, treeC, treeL, aLit, aDst, aSrc, appTab, Value.cells, Value.oneCell', envOf, aResL, aOne, ↓reduceIte, reduceCtorEq, forall_const, Nat.reduceLT, Nat.reduceEqDiff, Nat.reduceAdd, Nat.reduceMul, Nat.reduceSub, Nat.reduceLeDiff, Nat.reduceBEq, eq_self, implies_true, ne_eq, dref, dref1, dref2, aExecS, aStoreB, aTakes, aTakeE, aElder, aFrom, aFresh, isLoad, aBuildSlice1, frzs, frz1, ownIds, AV.frz, AV.frzL, frzEnv, AV.shift, AV.shiftL, aFieldV, aSliceW, aSliceO, aSlice, aSliceR, aSliceS, aBd, aMax, frzAVs, frzAV, frzTab, AObj.frz, aMM, aNilS, aMay, tyA_4, tyS_4, tyZ_4, tyF_26_1, tyA_3, tyS_3, tyF_47_4, tyA_40, tyS_40, tyE_40, tyK_40, tyK_3, tyA_47, tyS_47, tyA_26, tyS_26, ho, hn, hv] | (with_reducible refine aIf_split (fun _ => ?_) (fun _ => ?_)) | (with_reducible refine aSel_split (fun _ => ?_) (fun _ => ?_)) | (with_reducible refine aGd_split (fun _ => ?_) (fun _ => ?_)) | (with_reducible refine aDraw_quiet (by kernel_rfl) ?_) | ((with_reducible apply callV (g := 74)); exact (first_A (m.stages.length : Int))) | ((with_reducible apply callD (g := 74)); exact (first_A (m.stages.length : Int)))))
end
section
open Go.RowKit
noncomputable def askedM (m : Mod) (s : St) (x : Inst) : Option Bool :=
  if x.op = 1 then some true else if x.op = 2 then some false else if x.op = 9 then some (hasB s.opn x.n) else if x.op = 10 then some (hasB s.don x.n)
  else if x.op = 11 then some (decide (0 < ((whoM m s x.n).length : Int))) else if x.op = 12 then some (hasB (atI s.did x.n) x.u)
  else if x.op = 13 then some (completeM m s) else if x.op = 14 then some (stuckM m s) else none
noncomputable def onM (m : Mod) (s : St) (x : Inst) : Bool := (askedM m s x).getD (optB (holdsO [x] s))
set_option maxRecDepth 100000 in
set_option maxHeartbeats 8000000 in
theorem asked_A (m : Mod) (s : St) (x : Inst) (hl : m.events.length ≤ 1000000) (hl2 : m.users.length ≤ 1000000) (hl3 : m.miles.length ≤ 1000000) (hl4 : m.sods.length ≤ 1000000) : ADet Try.prog 30 [.agg (eMod m), .agg (eSt s), .agg (eInst x)] ⟨.tup [eB (optB (askedM m s x)), eB (askedM m s x).isSome], [], 0⟩ := by
  have hok : (⟨.tup [eB (optB (askedM m s x)), eB (askedM m s x).isSome], [], 0⟩ : Res).Ok := ⟨fun id o h => (by cases h), by simp [AV.lt, AV.ltL]⟩
  refine adet_of_code mixedT Try.func30 rfl (by decide) Try.ntmps30 Try.results30 rfl (hok) ?_
  obtain ⟨op, la, ln, ra, rn, n, u⟩ := x
  by_cases h12 : 0 ≤ n ∧ n < (s.did.length : Int)
  · obtain ⟨q, rfl⟩ : ∃ q : Nat, n = (q : Int) := ⟨n.toNat, by omega⟩
    have hq : q < s.did.length := by omega
    have hat : atI s.did (q : Int) = s.did[q] := by
      unfold atI
      rw [if_pos h12]
      simp [hq]
    (repeat' (first | simp (maxSteps := 5000000) (implicitDefEqProofs := false) only [ruA, ruB, aEv, aTake, aLoad, aField, aIndex, aLen, aBin, bin2, aUn, un1, aExtract, aConv, ASt.get, aget, ASt.put, aStore, aBox, aAppend, aBuildSlice, aMake, aBuild, aFill, oneParts, allC, aBinS, yv, aCells, oneC, oneCL, treeC, treeL, aLit, aDst, aSrc, appTab, Value.cells, Value.oneCell', envOf, aResL, aOne, ↓reduceIte, reduceCtorEq, forall_const, Nat.reduceLT, Nat.reduceEqDiff, Nat.reduceAdd, Nat.reduceMul, Nat.reduceSub, Nat.reduceLeDiff, Nat.reduceBEq, eq_self, implies_true, ne_eq, dref, dref1, dref2, aExecS, aStoreB, aTakes, aTakeE, aElder, aFrom, aFresh, isLoad, aBuildSlice1, frzs, frz1, ownIds, AV.frz, AV.frzL, frzEnv, AV.shift, AV.shiftL, aFieldV, aSliceW, aSliceO, aSlice, aSliceR, aSliceS, aBd, aMax, frzAVs, frzAV, frzTab, AObj.frz, aMM, aNilS, aMay, tyF_51_0, tyA_3, tyS_3, tyK_3, tyF_26_1, tyF_51_3, tyF_26_2, tyA_47, tyS_47, tyA_26, tyS_26, tyF_26_3, tyA_24, tyS_24, tyE_24, tyK_24, tyF_51_4, row_at, hq] | (with_reducible refine aIf_split (fun _ => ?_) (fun _ => ?_)) | (with_reducible refine aSel_split (fun _ => ?_) (fun _ => ?_)) | (with_reducible refine aGd_split (fun _ => ?_) (fun _ => ?_)) | (with_reducible refine aDraw_quiet (by kernel_rfl) ?_) | ((with_reducible apply callV (g := 54)); exact (can_A m s q hl3 hl4 hl2)) | ((with_reducible apply callD (g := 54)); exact (can_A m s q hl3 hl4 hl2)) | ((with_reducible apply callV (g := 55)); exact (complete_A m s hl3)) | ((with_reducible apply callD (g := 55)); exact (complete_A m s hl3)) | ((with_reducible apply callV (g := 56)); exact (stuck_A m s hl hl2 hl3 hl4)) | ((with_reducible apply callD (g := 56)); exact (stuck_A m s hl hl2 hl3 hl4)) | ((with_reducible apply callV (g := 53)); exact (has_A s.opn q)) | ((with_reducible apply callD (g := 53)); exact (has_A s.opn q)) | ((with_reducible apply callV (g := 53)); exact (has_A s.don q)) | ((with_reducible apply callD (g := 53)); exact (has_A s.don q)) | ((with_reducible apply callV (g := 53)); exact (has_A s.did[q] u)) | ((with_reducible apply callD (g := 53)); exact (has_A s.did[q] u))))
    all_goals first
      | (refine gives_tree ?_; simp_all [askedM, AV.ren, AV.renL, optB]; done)
      | (refine gives_tree ?_; simp_all [askedM, AV.ren, AV.renL, optB]; omega)
  · have hat : hasB (atI s.did n) u = false := by
      unfold atI
      rw [if_neg h12]
      simp [hasB]
    (repeat' (first | simp (maxSteps := 5000000) (implicitDefEqProofs := false) only [ruA, ruB, aEv, aTake, aLoad, aField, aIndex, aLen, aBin, bin2, aUn, un1, aExtract, aConv, ASt.get, aget, ASt.put, aStore, aBox, aAppend, aBuildSlice, aMake, aBuild, aFill, oneParts, allC, aBinS, yv, aCells, oneC, oneCL, treeC, treeL, aLit, aDst, aSrc, appTab, Value.cells, Value.oneCell', envOf, aResL, aOne, ↓reduceIte, reduceCtorEq, forall_const, Nat.reduceLT, Nat.reduceEqDiff, Nat.reduceAdd, Nat.reduceMul, Nat.reduceSub, Nat.reduceLeDiff, Nat.reduceBEq, eq_self, implies_true, ne_eq, dref, dref1, dref2, aExecS, aStoreB, aTakes, aTakeE, aElder, aFrom, aFresh, isLoad, aBuildSlice1, frzs, frz1, ownIds, AV.frz, AV.frzL, frzEnv, AV.shift, AV.shiftL, aFieldV, aSliceW, aSliceO, aSlice, aSliceR, aSliceS, aBd, aMax, frzAVs, frzAV, frzTab, AObj.frz, aMM, aNilS, aMay, tyF_51_0, tyA_3, tyS_3, tyK_3, tyF_26_1, tyF_51_3, tyF_26_2, tyA_47, tyS_47, tyA_26, tyS_26, tyF_26_3, tyA_24, tyS_24, tyE_24, tyK_24, tyF_51_4] | (with_reducible refine aIf_split (fun _ => ?_) (fun _ => ?_)) | (with_reducible refine aSel_split (fun _ => ?_) (fun _ => ?_)) | (with_reducible refine aGd_split (fun _ => ?_) (fun _ => ?_)) | (with_reducible refine aDraw_quiet (by kernel_rfl) ?_) | ((with_reducible apply callV (g := 54)); exact (can_A m s n hl3 hl4 hl2)) | ((with_reducible apply callD (g := 54)); exact (can_A m s n hl3 hl4 hl2)) | ((with_reducible apply callV (g := 55)); exact (complete_A m s hl3)) | ((with_reducible apply callD (g := 55)); exact (complete_A m s hl3)) | ((with_reducible apply callV (g := 56)); exact (stuck_A m s hl hl2 hl3 hl4)) | ((with_reducible apply callD (g := 56)); exact (stuck_A m s hl hl2 hl3 hl4)) | ((with_reducible apply callV (g := 53)); exact (has_A s.opn n)) | ((with_reducible apply callD (g := 53)); exact (has_A s.opn n)) | ((with_reducible apply callV (g := 53)); exact (has_A s.don n)) | ((with_reducible apply callD (g := 53)); exact (has_A s.don n))))
    all_goals first
      | (refine gives_tree ?_; simp_all [askedM, AV.ren, AV.renL, optB]; done)
      | (exfalso; simp at *; omega)
set_option maxRecDepth 100000 in
set_option maxHeartbeats 8000000 in
theorem on_A (m : Mod) (s : St) (x : Inst) (hl : m.events.length ≤ 1000000) (hl2 : m.users.length ≤ 1000000) (hl3 : m.miles.length ≤ 1000000) (hl4 : m.sods.length ≤ 1000000) (hx : x.ok) (hs : ∀ n ∈ s.vals, ok64 n) : ADet Try.prog 14 [.agg (eMod m), .agg (eSt s), .agg (eInst x)] (val (.bool (onM m s x))) := by
  refine adet_of_code mixedT Try.func14 rfl (by decide) Try.ntmps14 Try.results14 rfl (val_ok _) ?_
  cases ha : askedM m s x with
  | some b =>
    have hA := asked_A m s x hl hl2 hl3 hl4
    rw [ha] at hA
    have hv : onM m s x = b := by unfold onM; rw [ha]; rfl
    rw [hv]
    (repeat' (first | simp (maxSteps := 5000000) (implicitDefEqProofs := false) only [ruA, ruB, aEv, aTake, aLoad, aField, aIndex, aLen, aBin, bin2, aUn, un1, aExtract, aConv, ASt.get, aget, ASt.put, aStore, aBox, aAppend, aBuildSlice, aMake, aBuild, aFill, oneParts, allC, aBinS, yv, aCells, oneC, oneCL, treeC, treeL, aLit, aDst, aSrc, appTab, Value.cells, Value.oneCell', envOf, aResL, aOne, ↓reduceIte, reduceCtorEq, forall_const, Nat.reduceLT, Nat.reduceEqDiff, Nat.reduceAdd, Nat.reduceMul, Nat.reduceSub, Nat.reduceLeDiff, Nat.reduceBEq, eq_self, implies_true, ne_eq, dref, dref1, dref2, aExecS, aStoreB, aTakes, aTakeE, aElder, aFrom, aFresh, isLoad, aBuildSlice1, frzs, frz1, ownIds, AV.frz, AV.frzL, frzEnv, AV.shift, AV.shiftL, aFieldV, aSliceW, aSliceO, aSlice, aSliceR, aSliceS, aBd, aMax, frzAVs, frzAV, frzTab, AObj.frz, aMM, aNilS, aMay, tyA_47, tyS_47, tyA_26, tyS_26, tyA_51, tyS_51, tyR_22, Option.isSome_some] | (with_reducible refine aIf_split (fun _ => ?_) (fun _ => ?_)) | (with_reducible refine aSel_split (fun _ => ?_) (fun _ => ?_)) | (with_reducible refine aGd_split (fun _ => ?_) (fun _ => ?_)) | (with_reducible refine aDraw_quiet (by kernel_rfl) ?_) | ((with_reducible apply callT); exact (hA); exact (.inl (by simp [roL, roA, treeL, treeC])))))
    all_goals rfl
  | none =>
    have hA := asked_A m s x hl hl2 hl3 hl4
    rw [ha] at hA
    have hv : onM m s x = optB (holdsO [x] s) := by unfold onM; rw [ha]; rfl
    rw [hv]
    (repeat' (first | simp (maxSteps := 5000000) (implicitDefEqProofs := false) only [ruA, ruB, aEv, aTake, aLoad, aField, aIndex, aLen, aBin, bin2, aUn, un1, aExtract, aConv, ASt.get, aget, ASt.put, aStore, aBox, aAppend, aBuildSlice, aMake, aBuild, aFill, oneParts, allC, aBinS, yv, aCells, oneC, oneCL, treeC, treeL, aLit, aDst, aSrc, appTab, Value.cells, Value.oneCell', envOf, aResL, aOne, ↓reduceIte, reduceCtorEq, forall_const, Nat.reduceLT, Nat.reduceEqDiff, Nat.reduceAdd, Nat.reduceMul, Nat.reduceSub, Nat.reduceLeDiff, Nat.reduceBEq, eq_self, implies_true, ne_eq, dref, dref1, dref2, aExecS, aStoreB, aTakes, aTakeE, aElder, aFrom, aFresh, isLoad, aBuildSlice1, frzs, frz1, ownIds, AV.frz, AV.frzL, frzEnv, AV.shift, AV.shiftL, aFieldV, aSliceW, aSliceO, aSlice, aSliceR, aSliceS, aBd, aMax, frzAVs, frzAV, frzTab, AObj.frz, aMM, aNilS, aMay, tyA_47, tyS_47, tyA_26, tyS_26, tyA_51, tyS_51, tyR_22, Option.isSome_none] | (with_reducible refine aIf_split (fun _ => ?_) (fun _ => ?_)) | (with_reducible refine aSel_split (fun _ => ?_) (fun _ => ?_)) | (with_reducible refine aGd_split (fun _ => ?_) (fun _ => ?_)) | (with_reducible refine aDraw_quiet (by kernel_rfl) ?_) | ((with_reducible apply callT); exact (hA); exact (.inl (by simp [roL, roA, treeL, treeC])))))
    refine ⟨rfl, ?_⟩
    refine callZ [3] (R := ⟨.tup [eB (optB (holdsO [x] s)), eI (optE (holdsO [x] s))], [], 0⟩) ?_ ?_ ?_
    · simp (maxSteps := 5000000) (implicitDefEqProofs := false) only [ruA, ruB, aEv, aTake, aLoad, aField, aIndex, aLen, aBin, bin2, aUn, un1, aExtract, aConv, ASt.get, aget, ASt.put, aStore, aBox, aAppend, aBuildSlice, aMake, aBuild, aFill, oneParts, allC, aBinS, yv, aCells, oneC, oneCL, treeC, treeL, aLit, aDst, aSrc, appTab, Value.cells, Value.oneCell', envOf, aResL, aOne, ↓reduceIte, reduceCtorEq, forall_const, Nat.reduceLT, Nat.reduceEqDiff, Nat.reduceAdd, Nat.reduceMul, Nat.reduceSub, Nat.reduceLeDiff, Nat.reduceBEq, eq_self, implies_true, ne_eq, dref, dref1, dref2, aExecS, aStoreB, aTakes, aTakeE, aElder, aFrom, aFresh, isLoad, aBuildSlice1, frzs, frz1, ownIds, AV.frz, AV.frzL, frzEnv, AV.shift, AV.shiftL, aFieldV, aSliceW, aSliceO, aSlice, aSliceR, aSliceS, aBd, aMax, frzAVs, frzAV, frzTab, AObj.frz, aMM, aNilS, aMay, tyA_47, tyS_47, tyA_26, tyS_26, tyA_51, tyS_51, tyR_22]
      exact holds_A [x] s (by simp) (by simpa using hx) hs
    · simp (maxSteps := 5000000) (implicitDefEqProofs := false) only [ruA, ruB, aEv, aTake, aLoad, aField, aIndex, aLen, aBin, bin2, aUn, un1, aExtract, aConv, ASt.get, aget, ASt.put, aStore, aBox, aAppend, aBuildSlice, aMake, aBuild, aFill, oneParts, allC, aBinS, yv, aCells, oneC, oneCL, treeC, treeL, aLit, aDst, aSrc, appTab, Value.cells, Value.oneCell', envOf, aResL, aOne, ↓reduceIte, reduceCtorEq, forall_const, Nat.reduceLT, Nat.reduceEqDiff, Nat.reduceAdd, Nat.reduceMul, Nat.reduceSub, Nat.reduceLeDiff, Nat.reduceBEq, eq_self, implies_true, ne_eq, dref, dref1, dref2, aExecS, aStoreB, aTakes, aTakeE, aElder, aFrom, aFresh, isLoad, aBuildSlice1, frzs, frz1, ownIds, AV.frz, AV.frzL, frzEnv, AV.shift, AV.shiftL, aFieldV, aSliceW, aSliceO, aSlice, aSliceR, aSliceS, aBd, aMax, frzAVs, frzAV, frzTab, AObj.frz, aMM, aNilS, aMay, tyA_47, tyS_47, tyA_26, tyS_26, tyA_51, tyS_51, tyR_22]
      left
      simp [roL, roA, treeL, treeC]
    · (repeat' (first | simp (maxSteps := 5000000) (implicitDefEqProofs := false) only [ruA, ruB, aEv, aTake, aLoad, aField, aIndex, aLen, aBin, bin2, aUn, un1, aExtract, aConv, ASt.get, aget, ASt.put, aStore, aBox, aAppend, aBuildSlice, aMake, aBuild, aFill, oneParts, allC, aBinS, yv, aCells, oneC, oneCL, treeC, treeL, aLit, aDst, aSrc, appTab, Value.cells, Value.oneCell', envOf, aResL, aOne, ↓reduceIte, reduceCtorEq, forall_const, Nat.reduceLT, Nat.reduceEqDiff, Nat.reduceAdd, Nat.reduceMul, Nat.reduceSub, Nat.reduceLeDiff, Nat.reduceBEq, eq_self, implies_true, ne_eq, dref, dref1, dref2, aExecS, aStoreB, aTakes, aTakeE, aElder, aFrom, aFresh, isLoad, aBuildSlice1, frzs, frz1, ownIds, AV.frz, AV.frzL, frzEnv, AV.shift, AV.shiftL, aFieldV, aSliceW, aSliceO, aSlice, aSliceR, aSliceS, aBd, aMax, frzAVs, frzAV, frzTab, AObj.frz, aMM, aNilS, aMay, tyA_47, tyS_47, tyA_26, tyS_26, tyA_51, tyS_51, tyR_22] | (with_reducible refine aIf_split (fun _ => ?_) (fun _ => ?_)) | (with_reducible refine aSel_split (fun _ => ?_) (fun _ => ?_)) | (with_reducible refine aGd_split (fun _ => ?_) (fun _ => ?_)) | (with_reducible refine aDraw_quiet (by kernel_rfl) ?_)))
end
section
open Go.RowKit
theorem cloneI_A (l : List Int) (hl : l.length ≤ 1000000) : ADet Try.prog 60 [sI l] ⟨sI l, [], 0⟩ := by
  refine adet_own_nil (e := 3) ?_
  refine arel_of_code mixedT Try.func60 rfl (by decide) Try.ntmps60 Try.results60 rfl ?_
  (repeat' (first | simp (maxSteps := 5000000) (implicitDefEqProofs := false) only [ruA, ruB, aEv, aTake, aLoad, aField, aIndex, aLen, aBin, bin2, aUn, un1, aExtract, aConv, ASt.get, aget, ASt.put, aStore, aBox, aAppend, aBuildSlice, aMake, aBuild, aFill, oneParts, allC, aBinS, yv, aCells, oneC, oneCL, treeC, treeL, aLit, aDst, aSrc, appTab, Value.cells, Value.oneCell', envOf, aResL, aOne, ↓reduceIte, reduceCtorEq, forall_const, Nat.reduceLT, Nat.reduceEqDiff, Nat.reduceAdd, Nat.reduceMul, Nat.reduceSub, Nat.reduceLeDiff, Nat.reduceBEq, eq_self, implies_true, ne_eq, dref, dref1, dref2, aExecS, aStoreB, aTakes, aTakeE, aElder, aFrom, aFresh, isLoad, aBuildSlice1, frzs, frz1, ownIds, AV.frz, AV.frzL, frzEnv, AV.shift, AV.shiftL, aFieldV, aSliceW, aSliceO, aSlice, aSliceR, aSliceS, aBd, aMax, frzAVs, frzAV, frzTab, AObj.frz, aMM, aNilS, aMay, tyK_24, tyR_24] | (with_reducible refine aIf_split (fun _ => ?_) (fun _ => ?_)) | (with_reducible refine aSel_split (fun _ => ?_) (fun _ => ?_)) | (with_reducible refine aGd_split (fun _ => ?_) (fun _ => ?_))))
  intro c hc
  cases c with
  | true =>
    (repeat' (first | simp (maxSteps := 5000000) (implicitDefEqProofs := false) only [ruA, ruB, aEv, aTake, aLoad, aField, aIndex, aLen, aBin, bin2, aUn, un1, aExtract, aConv, ASt.get, aget, ASt.put, aStore, aBox, aAppend, aBuildSlice, aMake, aBuild, aFill, oneParts, allC, aBinS, yv, aCells, oneC, oneCL, treeC, treeL, aLit, aDst, aSrc, appTab, Value.cells, Value.oneCell', envOf, aResL, aOne, ↓reduceIte, reduceCtorEq, forall_const, Nat.reduceLT, Nat.reduceEqDiff, Nat.reduceAdd, Nat.reduceMul, Nat.reduceSub, Nat.reduceLeDiff, Nat.reduceBEq, eq_self, implies_true, ne_eq, dref, dref1, dref2, aExecS, aStoreB, aTakes, aTakeE, aElder, aFrom, aFresh, isLoad, aBuildSlice1, frzs, frz1, ownIds, AV.frz, AV.frzL, frzEnv, AV.shift, AV.shiftL, aFieldV, aSliceW, aSliceO, aSlice, aSliceR, aSliceS, aBd, aMax, frzAVs, frzAV, frzTab, AObj.frz, aMM, aNilS, aMay, tyK_24, tyR_24] | (with_reducible refine aIf_split (fun _ => ?_) (fun _ => ?_)) | (with_reducible refine aSel_split (fun _ => ?_) (fun _ => ?_)) | (with_reducible refine aGd_split (fun _ => ?_) (fun _ => ?_))))
    exact retV (.inr ⟨rfl, hc rfl⟩)
  | false =>
    (repeat' (first | simp (maxSteps := 5000000) (implicitDefEqProofs := false) only [ruA, ruB, aEv, aTake, aLoad, aField, aIndex, aLen, aBin, bin2, aUn, un1, aExtract, aConv, ASt.get, aget, ASt.put, aStore, aBox, aAppend, aBuildSlice, aMake, aBuild, aFill, oneParts, allC, aBinS, yv, aCells, oneC, oneCL, treeC, treeL, aLit, aDst, aSrc, appTab, Value.cells, Value.oneCell', envOf, aResL, aOne, ↓reduceIte, reduceCtorEq, forall_const, Nat.reduceLT, Nat.reduceEqDiff, Nat.reduceAdd, Nat.reduceMul, Nat.reduceSub, Nat.reduceLeDiff, Nat.reduceBEq, eq_self, implies_true, ne_eq, dref, dref1, dref2, aExecS, aStoreB, aTakes, aTakeE, aElder, aFrom, aFresh, isLoad, aBuildSlice1, frzs, frz1, ownIds, AV.frz, AV.frzL, frzEnv, AV.shift, AV.shiftL, aFieldV, aSliceW, aSliceO, aSlice, aSliceR, aSliceS, aBd, aMax, frzAVs, frzAV, frzTab, AObj.frz, aMM, aNilS, aMay, tyK_24, tyR_24] | (with_reducible refine aIf_split (fun _ => ?_) (fun _ => ?_)) | (with_reducible refine aSel_split (fun _ => ?_) (fun _ => ?_)) | (with_reducible refine aGd_split (fun _ => ?_) (fun _ => ?_))))
    exact ⟨rfl, by omega, retO rfl (.inl rfl)⟩
set_option maxRecDepth 100000 in
set_option maxHeartbeats 8000000 in
theorem status_A (zc zg : List (List AV)) (o d : Int) (did cnt : List Int) (h1 : did.length ≤ 1000000) (h2 : cnt.length ≤ 1000000) : ADet Try.prog 32 [.agg [.sl 2 zc, .sl 1 zg, eI o, eI d, sI did, sI cnt]] ⟨.agg [.c (.slice none 0 0), eI o, eI d, sI did, sI cnt], [], 0⟩ := by
  have hok : (⟨.agg [.c (.slice none 0 0), eI o, eI d, sI did, sI cnt], [], 0⟩ : Res).Ok := ⟨fun id o h => (by cases h), by simp [AV.lt, AV.ltL]⟩
  refine adet_of_code mixedT Try.func32 rfl (by decide) Try.ntmps32 Try.results32 rfl (hok) ?_
  (repeat' (first | simp (maxSteps := 5000000) (implicitDefEqProofs := false) only [ruA, ruB, aEv, aTake, aLoad, aField, aIndex, aLen, aBin, bin2, aUn, un1, aExtract, aConv, ASt.get, aget, ASt.put, aStore, aBox, aAppend, aBuildSlice, aMake, aBuild, aFill, oneParts, allC, aBinS, yv, aCells, oneC, oneCL, treeC, treeL, aLit, aDst, aSrc, appTab, Value.cells, Value.oneCell', envOf, aResL, aOne, ↓reduceIte, reduceCtorEq, forall_const, Nat.reduceLT, Nat.reduceEqDiff, Nat.reduceAdd, Nat.reduceMul, Nat.reduceSub, Nat.reduceLeDiff, Nat.reduceBEq, eq_self, implies_true, ne_eq, dref, dref1, dref2, aExecS, aStoreB, aTakes, aTakeE, aElder, aFrom, aFresh, isLoad, aBuildSlice1, frzs, frz1, ownIds, AV.frz, AV.frzL, frzEnv, AV.shift, AV.shiftL, aFieldV, aSliceW, aSliceO, aSlice, aSliceR, aSliceS, aBd, aMax, frzAVs, frzAV, frzTab, AObj.frz, aMM, aNilS, aMay, tyA_26, tyS_26, tyZ_26, tyF_58_1, tyA_3, tyS_3, tyF_58_2, tyF_58_3, tyA_24, tyS_24, tyF_58_4, tyB_26] | (with_reducible refine aIf_split (fun _ => ?_) (fun _ => ?_)) | (with_reducible refine aSel_split (fun _ => ?_) (fun _ => ?_)) | (with_reducible refine aGd_split (fun _ => ?_) (fun _ => ?_))))
  refine aDraw_held [1] [0, 1, 2, 3, 4, 5, 7, 8] (.exec 6 (.exec 9 (.take 10 (.exec 11 .done)))) (by kernel_rfl) (by simp [ATab.get_cons]) ?_
  (repeat' (first | simp (maxSteps := 5000000) (implicitDefEqProofs := false) only [ruA, ruB, aEv, aTake, aLoad, aField, aIndex, aLen, aBin, bin2, aUn, un1, aExtract, aConv, ASt.get, aget, ASt.put, aStore, aBox, aAppend, aBuildSlice, aMake, aBuild, aFill, oneParts, allC, aBinS, yv, aCells, oneC, oneCL, treeC, treeL, aLit, aDst, aSrc, appTab, Value.cells, Value.oneCell', envOf, aResL, aOne, ↓reduceIte, reduceCtorEq, forall_const, Nat.reduceLT, Nat.reduceEqDiff, Nat.reduceAdd, Nat.reduceMul, Nat.reduceSub, Nat.reduceLeDiff, Nat.reduceBEq, eq_self, implies_true, ne_eq, dref, dref1, dref2, aExecS, aStoreB, aTakes, aTakeE, aElder, aFrom, aFresh, isLoad, aBuildSlice1, frzs, frz1, ownIds, AV.frz, AV.frzL, frzEnv, AV.shift, AV.shiftL, aFieldV, aSliceW, aSliceO, aSlice, aSliceR, aSliceS, aBd, aMax, frzAVs, frzAV, frzTab, AObj.frz, aMM, aNilS, aMay, tyA_26, tyS_26, tyZ_26, tyF_58_1, tyA_3, tyS_3, tyF_58_2, tyF_58_3, tyA_24, tyS_24, tyF_58_4, tyB_26] | (with_reducible refine aIf_split (fun _ => ?_) (fun _ => ?_)) | (with_reducible refine aSel_split (fun _ => ?_) (fun _ => ?_)) | (with_reducible refine aGd_split (fun _ => ?_) (fun _ => ?_)) | (with_reducible refine aDraw_quiet (by kernel_rfl) ?_) | ((with_reducible apply callT (g := 60)); exact (cloneI_A did h1); exact (.inl (by simp [roL, roA, treeL, treeC]))) | ((with_reducible apply callT (g := 60)); exact (cloneI_A cnt h2); exact (.inl (by simp [roL, roA, treeL, treeC]))) | (with_reducible apply And.intro)))
  all_goals exact gives_tree (by first | rfl | simp [AV.ren, AV.renL])
def exM0 : Mod := ⟨[], [], [], [], [], [], [], [], [], []⟩
def exS33 : St := ⟨[], 0, 0, [1], []⟩
def exX33 : Inst := ⟨12, 0, 0, 0, 0, 0, 0⟩
theorem ex33_asked : askedM exM0 exS33 exX33 = some true := by
  unfold askedM
  simp [exX33]
  decide
theorem ex33_on : onM exM0 exS33 exX33 = true := by
  unfold onM
  rw [ex33_asked]
  rfl
set_option maxRecDepth 100000 in
set_option maxHeartbeats 8000000 in
theorem at33_A : ADet Try.prog 15 [.agg [.c (.slice none 0 0), .c (.slice none 0 0), .c (.slice none 0 0), .c (.slice none 0 0), .c (.slice none 0 0), .c (.slice none 0 0), .c (.slice none 0 0), .c (.slice none 0 0), .c (.slice none 0 0), .c (.slice none 0 0)], .c (.slice none 0 0), .agg [.c (.slice none 0 0), .c (.slice none 0 0), eI 0, eI 0, sI [1], .c (.slice none 0 0)], .agg (eInst exX33)] (val (.bool true)) := by
  refine adet_of_code mixedT Try.func15 rfl (by decide) Try.ntmps15 Try.results15 rfl (val_ok _) ?_
  have hS := (status_A [] [] 0 0 [1] [] (by simp) (by simp)).fits (args := [.agg [.c (.slice none 0 0), .c (.slice none 0 0), eI 0, eI 0, sI [1], .c (.slice none 0 0)]]) ⟨.agg ⟨.nil 2, .nil 1, .refl _, .refl _, .refl _, .nil 1, trivial⟩, trivial⟩
  have hA := asked_A exM0 exS33 exX33 (by simp [exM0]) (by simp [exM0]) (by simp [exM0]) (by simp [exM0])
  rw [ex33_asked] at hA
  have hA2 := hA.fits (args := [.agg [.c (.slice none 0 0), .c (.slice none 0 0), .c (.slice none 0 0), .c (.slice none 0 0), .c (.slice none 0 0), .c (.slice none 0 0), .c (.slice none 0 0), .c (.slice none 0 0), .c (.slice none 0 0), .c (.slice none 0 0)], .agg [.c (.slice none 0 0), eI 0, eI 0, sI [1], sI []], .agg (eInst exX33)]) ⟨.agg ⟨.nil 1, .nil 1, .nil 1, .nil 2, .nil 2, .nil 5, .nil 3, .nil 5, .nil 2, .nil 2, trivial⟩, .agg ⟨.nil 1, .refl _, .refl _, .refl _, .refl _, trivial⟩, .one (.refl _), trivial⟩
  (repeat' (first | simp (maxSteps := 5000000) (implicitDefEqProofs := false) only [ruA, ruB, aEv, aTake, aLoad, aField, aIndex, aLen, aBin, bin2, aUn, un1, aExtract, aConv, ASt.get, aget, ASt.put, aStore, aBox, aAppend, aBuildSlice, aMake, aBuild, aFill, oneParts, allC, aBinS, yv, aCells, oneC, oneCL, treeC, treeL, aLit, aDst, aSrc, appTab, Value.cells, Value.oneCell', envOf, aResL, aOne, ↓reduceIte, reduceCtorEq, forall_const, Nat.reduceLT, Nat.reduceEqDiff, Nat.reduceAdd, Nat.reduceMul, Nat.reduceSub, Nat.reduceLeDiff, Nat.reduceBEq, eq_self, implies_true, ne_eq, dref, dref1, dref2, aExecS, aStoreB, aTakes, aTakeE, aElder, aFrom, aFresh, isLoad, aBuildSlice1, frzs, frz1, ownIds, AV.frz, AV.frzL, frzEnv, AV.shift, AV.shiftL, aFieldV, aSliceW, aSliceO, aSlice, aSliceR, aSliceS, aBd, aMax, frzAVs, frzAV, frzTab, AObj.frz, aMM, aNilS, aMay, tyA_58, tyS_58, tyZ_26, tyS_26, tyA_47, tyS_47, tyA_26, tyA_51, tyS_51, tyR_22, tyF_58_0, tyA_34, tyS_34, Option.isSome_some] | (with_reducible refine aIf_split (fun _ => ?_) (fun _ => ?_)) | (with_reducible refine aSel_split (fun _ => ?_) (fun _ => ?_)) | (with_reducible refine aGd_split (fun _ => ?_) (fun _ => ?_)) | (with_reducible refine aDraw_quiet (by kernel_rfl) ?_) | ((with_reducible apply callT); exact (hS); exact (.inl (by simp [roL, roA, treeL, treeC]))) | ((with_reducible apply callT); exact (hA2); exact (.inl (by simp [roL, roA, treeL, treeC])))))
  all_goals rfl
set_option maxRecDepth 100000 in
set_option maxHeartbeats 8000000 in
theorem awake33_A : ADet Try.prog 12 [] (val (.bool true)) := by
  refine adet_of_code mixedT Try.func12 rfl (by decide) Try.ntmps12 Try.results12 rfl (val_ok _) ?_
  have hO := on_A exM0 exS33 exX33 (by simp [exM0]) (by simp [exM0]) (by simp [exM0]) (by simp [exM0]) (by simp [exX33, Inst.ok, ok64]) (by simp [exS33])
  rw [ex33_on] at hO
  have hO2 := hO.fits (args := [.agg [.c (.slice none 0 0), .c (.slice none 0 0), .c (.slice none 0 0), .c (.slice none 0 0), .c (.slice none 0 0), .c (.slice none 0 0), .c (.slice none 0 0), .c (.slice none 0 0), .c (.slice none 0 0), .c (.slice none 0 0)], .agg [.c (.slice none 0 0), eI 0, eI 0, sI [1], .c (.slice none 0 0)], .agg (eInst exX33)]) ⟨.agg ⟨.nil 1, .nil 1, .nil 1, .nil 2, .nil 2, .nil 5, .nil 3, .nil 5, .nil 2, .nil 2, trivial⟩, .agg ⟨.nil 1, .refl _, .refl _, .refl _, .nil 1, trivial⟩, .one (.refl _), trivial⟩
  (repeat' (first | simp (maxSteps := 5000000) (implicitDefEqProofs := false) only [ruA, ruB, aEv, aTake, aLoad, aField, aIndex, aLen, aBin, bin2, aUn, un1, aExtract, aConv, ASt.get, aget, ASt.put, aStore, aBox, aAppend, aBuildSlice, aMake, aBuild, aFill, oneParts, allC, aBinS, yv, aCells, oneC, oneCL, treeC, treeL, aLit, aDst, aSrc, appTab, Value.cells, Value.oneCell', envOf, aResL, aOne, ↓reduceIte, reduceCtorEq, forall_const, Nat.reduceLT, Nat.reduceEqDiff, Nat.reduceAdd, Nat.reduceMul, Nat.reduceSub, Nat.reduceLeDiff, Nat.reduceBEq, eq_self, implies_true, ne_eq, dref, dref1, dref2, aExecS, aStoreB, aTakes, aTakeE, aElder, aFrom, aFresh, isLoad, aBuildSlice1, frzs, frz1, ownIds, AV.frz, AV.frzL, frzEnv, AV.shift, AV.shiftL, aFieldV, aSliceW, aSliceO, aSlice, aSliceR, aSliceS, aBd, aMax, frzAVs, frzAV, frzTab, AObj.frz, aMM, aNilS, aMay, tyB_47, tyR_24, tyB_26, tyB_51, tyB_58] | (with_reducible refine aIf_split (fun _ => ?_) (fun _ => ?_)) | (with_reducible refine aSel_split (fun _ => ?_) (fun _ => ?_)) | (with_reducible refine aGd_split (fun _ => ?_) (fun _ => ?_))))
  refine ⟨rfl, ?_⟩
  refine callZ [0] (R := ⟨.c (.bool true), [], 0⟩) ?_ ?_ ?_
  · simp (maxSteps := 5000000) (implicitDefEqProofs := false) only [ruA, ruB, aEv, aTake, aLoad, aField, aIndex, aLen, aBin, bin2, aUn, un1, aExtract, aConv, ASt.get, aget, ASt.put, aStore, aBox, aAppend, aBuildSlice, aMake, aBuild, aFill, oneParts, allC, aBinS, yv, aCells, oneC, oneCL, treeC, treeL, aLit, aDst, aSrc, appTab, Value.cells, Value.oneCell', envOf, aResL, aOne, ↓reduceIte, reduceCtorEq, forall_const, Nat.reduceLT, Nat.reduceEqDiff, Nat.reduceAdd, Nat.reduceMul, Nat.reduceSub, Nat.reduceLeDiff, Nat.reduceBEq, eq_self, implies_true, ne_eq, dref, dref1, dref2, aExecS, aStoreB, aTakes, aTakeE, aElder, aFrom, aFresh, isLoad, aBuildSlice1, frzs, frz1, ownIds, AV.frz, AV.frzL, frzEnv, AV.shift, AV.shiftL, aFieldV, aSliceW, aSliceO, aSlice, aSliceR, aSliceS, aBd, aMax, frzAVs, frzAV, frzTab, AObj.frz, aMM, aNilS, aMay, tyB_47, tyR_24, tyB_26, tyB_51, tyB_58]
    exact hO2
  · simp (maxSteps := 5000000) (implicitDefEqProofs := false) only [ruA, ruB, aEv, aTake, aLoad, aField, aIndex, aLen, aBin, bin2, aUn, un1, aExtract, aConv, ASt.get, aget, ASt.put, aStore, aBox, aAppend, aBuildSlice, aMake, aBuild, aFill, oneParts, allC, aBinS, yv, aCells, oneC, oneCL, treeC, treeL, aLit, aDst, aSrc, appTab, Value.cells, Value.oneCell', envOf, aResL, aOne, ↓reduceIte, reduceCtorEq, forall_const, Nat.reduceLT, Nat.reduceEqDiff, Nat.reduceAdd, Nat.reduceMul, Nat.reduceSub, Nat.reduceLeDiff, Nat.reduceBEq, eq_self, implies_true, ne_eq, dref, dref1, dref2, aExecS, aStoreB, aTakes, aTakeE, aElder, aFrom, aFresh, isLoad, aBuildSlice1, frzs, frz1, ownIds, AV.frz, AV.frzL, frzEnv, AV.shift, AV.shiftL, aFieldV, aSliceW, aSliceO, aSlice, aSliceR, aSliceS, aBd, aMax, frzAVs, frzAV, frzTab, AObj.frz, aMM, aNilS, aMay, tyB_47, tyR_24, tyB_26, tyB_51, tyB_58]
    left
    simp [roL, roA, treeL, treeC]
  · (repeat' (first | simp (maxSteps := 5000000) (implicitDefEqProofs := false) only [ruA, ruB, aEv, aTake, aLoad, aField, aIndex, aLen, aBin, bin2, aUn, un1, aExtract, aConv, ASt.get, aget, ASt.put, aStore, aBox, aAppend, aBuildSlice, aMake, aBuild, aFill, oneParts, allC, aBinS, yv, aCells, oneC, oneCL, treeC, treeL, aLit, aDst, aSrc, appTab, Value.cells, Value.oneCell', envOf, aResL, aOne, ↓reduceIte, reduceCtorEq, forall_const, Nat.reduceLT, Nat.reduceEqDiff, Nat.reduceAdd, Nat.reduceMul, Nat.reduceSub, Nat.reduceLeDiff, Nat.reduceBEq, eq_self, implies_true, ne_eq, dref, dref1, dref2, aExecS, aStoreB, aTakes, aTakeE, aElder, aFrom, aFresh, isLoad, aBuildSlice1, frzs, frz1, ownIds, AV.frz, AV.frzL, frzEnv, AV.shift, AV.shiftL, aFieldV, aSliceW, aSliceO, aSlice, aSliceR, aSliceS, aBd, aMax, frzAVs, frzAV, frzTab, AObj.frz, aMM, aNilS, aMay, tyB_47, tyR_24, tyB_26, tyB_51, tyB_58] | (with_reducible refine aIf_split (fun _ => ?_) (fun _ => ?_)) | (with_reducible refine aSel_split (fun _ => ?_) (fun _ => ?_)) | (with_reducible refine aGd_split (fun _ => ?_) (fun _ => ?_))))
    refine ⟨rfl, ?_⟩
    refine callZ [1] (R := ⟨.c (.bool true), [], 0⟩) ?_ ?_ ?_
    · simp (maxSteps := 5000000) (implicitDefEqProofs := false) only [ruA, ruB, aEv, aTake, aLoad, aField, aIndex, aLen, aBin, bin2, aUn, un1, aExtract, aConv, ASt.get, aget, ASt.put, aStore, aBox, aAppend, aBuildSlice, aMake, aBuild, aFill, oneParts, allC, aBinS, yv, aCells, oneC, oneCL, treeC, treeL, aLit, aDst, aSrc, appTab, Value.cells, Value.oneCell', envOf, aResL, aOne, ↓reduceIte, reduceCtorEq, forall_const, Nat.reduceLT, Nat.reduceEqDiff, Nat.reduceAdd, Nat.reduceMul, Nat.reduceSub, Nat.reduceLeDiff, Nat.reduceBEq, eq_self, implies_true, ne_eq, dref, dref1, dref2, aExecS, aStoreB, aTakes, aTakeE, aElder, aFrom, aFresh, isLoad, aBuildSlice1, frzs, frz1, ownIds, AV.frz, AV.frzL, frzEnv, AV.shift, AV.shiftL, aFieldV, aSliceW, aSliceO, aSlice, aSliceR, aSliceS, aBd, aMax, frzAVs, frzAV, frzTab, AObj.frz, aMM, aNilS, aMay, tyB_47, tyR_24, tyB_26, tyB_51, tyB_58]
      exact at33_A
    · simp (maxSteps := 5000000) (implicitDefEqProofs := false) only [ruA, ruB, aEv, aTake, aLoad, aField, aIndex, aLen, aBin, bin2, aUn, un1, aExtract, aConv, ASt.get, aget, ASt.put, aStore, aBox, aAppend, aBuildSlice, aMake, aBuild, aFill, oneParts, allC, aBinS, yv, aCells, oneC, oneCL, treeC, treeL, aLit, aDst, aSrc, appTab, Value.cells, Value.oneCell', envOf, aResL, aOne, ↓reduceIte, reduceCtorEq, forall_const, Nat.reduceLT, Nat.reduceEqDiff, Nat.reduceAdd, Nat.reduceMul, Nat.reduceSub, Nat.reduceLeDiff, Nat.reduceBEq, eq_self, implies_true, ne_eq, dref, dref1, dref2, aExecS, aStoreB, aTakes, aTakeE, aElder, aFrom, aFresh, isLoad, aBuildSlice1, frzs, frz1, ownIds, AV.frz, AV.frzL, frzEnv, AV.shift, AV.shiftL, aFieldV, aSliceW, aSliceO, aSlice, aSliceR, aSliceS, aBd, aMax, frzAVs, frzAV, frzTab, AObj.frz, aMM, aNilS, aMay, tyB_47, tyR_24, tyB_26, tyB_51, tyB_58]
      left
      simp [roL, roA, treeL, treeC]
    · (repeat' (first | simp (maxSteps := 5000000) (implicitDefEqProofs := false) only [ruA, ruB, aEv, aTake, aLoad, aField, aIndex, aLen, aBin, bin2, aUn, un1, aExtract, aConv, ASt.get, aget, ASt.put, aStore, aBox, aAppend, aBuildSlice, aMake, aBuild, aFill, oneParts, allC, aBinS, yv, aCells, oneC, oneCL, treeC, treeL, aLit, aDst, aSrc, appTab, Value.cells, Value.oneCell', envOf, aResL, aOne, ↓reduceIte, reduceCtorEq, forall_const, Nat.reduceLT, Nat.reduceEqDiff, Nat.reduceAdd, Nat.reduceMul, Nat.reduceSub, Nat.reduceLeDiff, Nat.reduceBEq, eq_self, implies_true, ne_eq, dref, dref1, dref2, aExecS, aStoreB, aTakes, aTakeE, aElder, aFrom, aFresh, isLoad, aBuildSlice1, frzs, frz1, ownIds, AV.frz, AV.frzL, frzEnv, AV.shift, AV.shiftL, aFieldV, aSliceW, aSliceO, aSlice, aSliceR, aSliceS, aBd, aMax, frzAVs, frzAV, frzTab, AObj.frz, aMM, aNilS, aMay, tyB_47, tyR_24, tyB_26, tyB_51, tyB_58] | (with_reducible refine aIf_split (fun _ => ?_) (fun _ => ?_)) | (with_reducible refine aSel_split (fun _ => ?_) (fun _ => ?_)) | (with_reducible refine aGd_split (fun _ => ?_) (fun _ => ?_))))
end
section
def isD (b : Nat) : Bool := decide (48 ≤ b) && decide (b ≤ 57)
def valL (l : List Nat) : Nat := l.foldl (fun n b => n * 10 + (b - 48)) 0
def formedL (l : List Nat) : Bool := !l.isEmpty && l.all isD
/-- the number, and the error's number -/
def signed (neg : Bool) (l : List Nat) : Int × Int :=
  if formedL l = false then (0, 17) else if (if neg = true then 9223372036854775808 else 9223372036854775807) < valL l then (0, 2) else (if neg = true then -(valL l : Int) else (valL l : Int), 0)
end
section
open Go.RowKit

/-- v holds the numbers l -/
def LI (w : World) (v : Value) (l : List Int) : Prop :=
  ∃ A c, v = .slice A l.length c ∧ l.length ≤ c ∧ (0 < l.length → ∃ b o, A = some ⟨b, o, none⟩ ∧ b < w.heap.size ∧ ∀ i (h : i < l.length), w.cell? ⟨b, o + i, none⟩ = some (.int .i64 l[i]))
theorem LI.below {w w' : World} {v : Value} {l : List Int} (h : LI w v l) (hb : Below w.heap.size w w') : LI w' v l := by
  obtain ⟨A, c, rfl, hc, hr⟩ := h
  refine ⟨A, c, rfl, hc, fun hp => ?_⟩
  obtain ⟨b, o, hA, hb1, hcell⟩ := hr hp
  exact ⟨b, o, hA, Nat.lt_of_lt_of_le hb1 hb.size, fun i hi => (hb.cell hb1).trans (hcell i hi)⟩
theorem LI.some_ {w : World} {v : Value} {l : List Int} (h : LI w v l) (hp : 0 < l.length) : ∃ b o c, v = .slice (some ⟨b, o, none⟩) l.length c ∧ l.length ≤ c ∧ b < w.heap.size ∧ ∀ i (h : i < l.length), w.cell? ⟨b, o + i, none⟩ = some (.int .i64 l[i]) := by
  obtain ⟨A, c, rfl, hc, hr⟩ := h
  obtain ⟨b, o, rfl, hb, hcell⟩ := hr hp
  exact ⟨b, o, c, rfl, hc, hb, hcell⟩
theorem LI.at_ {w : World} {A : Option Addr} {c : Nat} {l : List Int} (h : LI w (.slice A l.length c) l) {i : Nat} (hi : i < l.length) : ∃ b o, A = some ⟨b, o, none⟩ ∧ b < w.heap.size ∧ w.cell? ⟨b, o + i, none⟩ = some (.int .i64 l[i]) := by
  obtain ⟨A', c', e, hc, hr⟩ := h
  obtain ⟨rfl, _, rfl⟩ : A = A' ∧ l.length = l.length ∧ c = c' := by simpa using e
  obtain ⟨b, o, rfl, hb, hcell⟩ := hr (by omega)
  exact ⟨b, o, rfl, hb, hcell i hi⟩
theorem LI.of_own {w : World} {base n : Nat} {v : Value} {l : List Int} (h : w.ownsRow base 2 1 v n (l.map (Value.int .i64))) (hn : n = l.length) : LI w v l := by
  subst hn
  obtain ⟨A, c, rfl, hc⟩ := own_form h
  refine ⟨A, c, rfl, hc, fun hp => ?_⟩
  obtain ⟨g, c', e, _, _, hg⟩ := own_some h hp
  obtain ⟨rfl, _, rfl⟩ : A = some ⟨g, 0, none⟩ ∧ l.length = l.length ∧ c = c' := by simpa using e
  exact ⟨g, 0, rfl, hg, fun i hi => by rw [Nat.zero_add]; exact own_cell h rfl (by simp [hi])⟩

theorem below_drewN' {B : Nat} {w w' : World} (h : Below B w w') (n : Nat) : Below B w (w'.drewN n) := h.trans ⟨rfl, rfl, rfl, Nat.le_refl _, fun _ _ => rfl⟩
end
section
open Go.RowKit
def LN (B : Nat) (w : World) (v : Value) (l : List Int) : Prop :=
  ∃ A c, v = .slice A l.length c ∧ l.length ≤ c ∧ c ≤ 9223372036854775807 ∧ (0 < l.length → ∃ b o, A = some ⟨b, o, none⟩ ∧ B ≤ b ∧ b < w.heap.size ∧ ∀ i (h : i < l.length), w.cell? ⟨b, o + i, none⟩ = some (.int .i64 l[i]))
theorem LN.of_own {w : World} {base n : Nat} {v : Value} {l : List Int} (h : w.ownsRow base 2 1 v n (l.map (Value.int .i64))) (hn : n = l.length) : LN base w v l := by
  subst hn
  have h0 := h
  rcases h0.2 with ⟨rfl, h1⟩ | ⟨g, cap, cur, rfl, hb, hg, h2, h3, _⟩
  · exact ⟨none, 0, by rw [h1], by omega, by omega, fun hp => by omega⟩
  · refine ⟨_, cap, rfl, h2, by unfold maxLen at h3; omega, fun hp => ⟨g, 0, rfl, hb, (Array.getElem?_eq_some_iff.1 hg).1, fun i hi => ?_⟩⟩
    rw [Nat.zero_add]
    exact own_cell h rfl (by simp [hi])
theorem LN.rt {B : Nat} {w : World} {S : Nat → Prop} {v : Value} {l : List Int} (h : LN B w v l) (hS : ∀ b, B ≤ b → b < w.heap.size → S b) : RT w S v (sI l) := by
  obtain ⟨A, c, rfl, h1, h2, h3⟩ := h
  have key : ∀ (i j : Nat) (row : List AV) (av : AV), (l.map fun n => [eI n])[i]? = some row → row[j]? = some av → ∃ hi : i < l.length, j = 0 ∧ av = eI l[i] := fun i j row av h4 h5 => by
    have hi : i < l.length := by
      have := (List.getElem?_eq_some_iff.1 h4).1
      simpa using this
    rw [List.getElem?_map, List.getElem?_eq_getElem hi] at h4
    cases h4
    match j with
    | 0 => exact ⟨hi, rfl, by simpa using h5.symm⟩
    | j + 1 => simp at h5
  by_cases h0 : 0 < l.length
  · obtain ⟨b, o, rfl, hb, hbs, hcell⟩ := h3 h0
    refine .sl _ _ c 1 _ b o (fun i _ => .int .i64 (l.getD i 0)) (by simp) h1 h2 (fun _ => ⟨rfl, hS b hb hbs⟩) (fun row hr => by obtain ⟨n, _, rfl⟩ := List.mem_map.1 hr; rfl) (fun _ i j row av h4 h5 => ?_) (fun _ _ _ _ _ _ => rfl) (fun i j row av h4 h5 => ?_)
    · obtain ⟨hi, rfl, _⟩ := key i j row av h4 h5
      rw [Nat.mul_one, Nat.add_zero, hcell i hi, List.getD_eq_getElem?_getD, List.getElem?_eq_getElem hi]
      rfl
    · obtain ⟨hi, rfl, rfl⟩ := key i j row av h4 h5
      rw [List.getD_eq_getElem?_getD, List.getElem?_eq_getElem hi]
      exact .c _
  · have : l = [] := List.length_eq_zero_iff.1 (by omega)
    subst this
    exact .sl A 0 c 1 [] 0 0 (fun _ _ => undef) rfl h1 h2 (fun h => by omega) (by simp) (fun h => by omega) (by simp) (by simp)
theorem LI.of_rt {w : World} {S : Nat → Prop} {v : Value} {l : List Int} (h : RT w S v (sI l)) (hS : ∀ b, S b → b < w.heap.size) : LI w v l := by
  obtain ⟨A, cap, rfl, hc, hm, _, hA⟩ := h.sl_inv
  refine ⟨A, cap, by simp, by simpa using hc, fun h0 => ?_⟩
  obtain ⟨b, o, rfl, hb, U, hcell, hr, _⟩ := hA (by simpa using h0)
  refine ⟨b, o, rfl, hS b hb, fun i hi => ?_⟩
  have h1 : (l.map fun n => [eI n])[i]? = some [eI l[i]] := by simp [hi]
  have h2 := hcell i 0 _ _ h1 rfl
  have h3 := rtc (hr i 0 _ _ h1 rfl)
  rw [h3] at h2
  simpa using h2
theorem adet_of_sl {P : Program} {f : FuncId} {args : List AV} {sz : Nat} {rows : List (List AV)} (he : Enters P f)
    (h : ∀ (S : Nat → Prop) (w : World) (vs : Array Value), (∀ b, S b → b < w.heap.size) → vs.size = args.length → (∀ (j : Nat) (v : Value) (av : AV), vs[j]? = some v → args[j]? = some av → RT w S v av) →
      Calls P f vs w fun e w' => ∃ v, e = .returned v ∧ (∀ S', (∀ b, w.heap.size ≤ b → b < w'.heap.size → S' b) → RT w' S' v (.sl sz rows)) ∧ Below w.heap.size w w') : ADet P f args ⟨.sl sz rows, [], 0⟩ :=
  ⟨he, fun S w vs h1 h2 h3 => (h S w vs h1 h2 h3).mono fun e w' ⟨v, h4, h5, h6⟩ => ⟨v, fun _ => undef, ⟨.sl sz rows, [], 0⟩, rfl, ⟨fun id o h => (by cases h), by simp [AV.lt]⟩, h4, ⟨belowX h6, fun id o h => (by cases h), fun id id' o o' g h => (by cases h), fun b hb => hb.elim⟩, .tree (h5 _ fun b hb hb2 => ⟨hb2, ⟨.inr hb, fun hX => hX⟩, fun id o h => (by cases h)⟩)⟩⟩
end
section
def insS (x : Int) (st : List Int × Bool) (y : Int) : List Int × Bool :=
  ((st.1 ++ (if st.2 = false ∧ x ≤ y then [x] else [])) ++ (if y ≠ x then [y] else []), st.2 || decide (x ≤ y))
def insR (x : Int) (l : List Int) : List Int × Bool := l.foldl (insS x) ([], false)
def insP (x : Int) (out : List Int) : List Int := if (insR x out).2 then (insR x out).1 else (insR x out).1 ++ [x]
def sortR (l : List Int) : List Int := l.foldl (fun out x => insP x out) []

theorem insR_snoc (x : Int) (l : List Int) (y : Int) : insR x (l ++ [y]) = insS x (insR x l) y := by simp [insR]
theorem insR_take (x : Int) (l : List Int) (k : Nat) (h : k < l.length) : insR x (l.take (k + 1)) = insS x (insR x (l.take k)) l[k] := by
  rw [List.take_succ_eq_append_getElem h, insR_snoc]
theorem sortR_snoc (l : List Int) (x : Int) : sortR (l ++ [x]) = insP x (sortR l) := by simp [sortR]
theorem sortR_take (l : List Int) (k : Nat) (h : k < l.length) : sortR (l.take (k + 1)) = insP l[k] (sortR (l.take k)) := by
  rw [List.take_succ_eq_append_getElem h, sortR_snoc]
theorem snoc_ind {p : List Int → Prop} (h0 : p []) (h1 : ∀ l x, p l → p (l ++ [x])) (l : List Int) : p l := by
  rw [← List.reverse_reverse l]
  induction l.reverse with
  | nil => exact h0
  | cons x r ih => rw [List.reverse_cons]; exact h1 _ _ ih
theorem insR_len (x : Int) (l : List Int) : (insR x l).1.length ≤ l.length + (if (insR x l).2 then 1 else 0) := by
  induction l using snoc_ind with
  | h0 => simp [insR]
  | h1 l y ih =>
    rw [insR_snoc]
    generalize insR x l = st at *
    obtain ⟨n, b⟩ := st
    cases b <;> by_cases h1 : x ≤ y <;> by_cases h2 : y = x <;> simp [insS, h1, h2] at ih ⊢ <;> omega
theorem insP_len (x : Int) (l : List Int) : (insP x l).length ≤ l.length + 1 := by
  have := insR_len x l
  unfold insP
  split <;> rename_i h <;> simp [h] at this ⊢ <;> omega
theorem sortR_len (l : List Int) : (sortR l).length ≤ l.length := by
  induction l using snoc_ind with
  | h0 => simp [sortR]
  | h1 l y ih => rw [sortR_snoc]; have := insP_len y (sortR l); simp; omega

/-- strictly rising -/
def Up (l : List Int) : Prop := l.Pairwise (· < ·)
theorem insR_up (x : Int) (l : List Int) (h : Up l) :
    Up (insR x l).1 ∧ (∀ z, z ∈ (insR x l).1 ↔ z ∈ l ∨ ((insR x l).2 = true ∧ z = x)) ∧ ((insR x l).2 = true ↔ ∃ z ∈ l, x ≤ z) ∧ ((insR x l).2 = true → x ∈ (insR x l).1) := by
  induction l using snoc_ind with
  | h0 => simp [insR, Up]
  | h1 l y ih =>
    have hl : Up l := (List.pairwise_append.1 h).1
    have hy : ∀ z ∈ l, z < y := fun z hz => (List.pairwise_append.1 h).2.2 z hz y (by simp)
    obtain ⟨i1, i2, i3, i4⟩ := ih hl
    rw [insR_snoc]
    generalize insR x l = st at *
    obtain ⟨n, b⟩ := st
    simp only at i1 i2 i3 i4
    cases b with
    | true =>
      obtain ⟨z, hz, hxz⟩ := i3.1 rfl
      have hxy : x < y := by have := hy z hz; omega
      have hne : y ≠ x := by omega
      simp only [insS, Bool.true_or, Bool.true_eq_false, false_and, if_false, List.append_nil, if_pos hne]
      refine ⟨List.pairwise_append.2 ⟨i1, by simp, ?_⟩, ?_, ?_, ?_⟩
      · intro a ha c hc
        rw [List.mem_singleton] at hc; subst hc
        rcases (i2 a).1 ha with h | ⟨_, rfl⟩
        · exact hy a h
        · exact hxy
      · intro a; simp only [List.mem_append, List.mem_singleton, i2]; constructor
        · rintro ((h | h) | h)
          · exact .inl (.inl h)
          · exact .inr h
          · exact .inl (.inr h)
        · rintro ((h | h) | h)
          · exact .inl (.inl h)
          · exact .inr h
          · exact .inl (.inr h)
      · exact ⟨fun _ => ⟨z, by simp [hz], hxz⟩, fun _ => trivial⟩
      · intro _; simp [i4 rfl]
    | false =>
      have hlow : ∀ z ∈ l, z < x := fun z hz => by
        rcases Int.lt_or_le z x with h | h
        · exact h
        · exact absurd (i3.2 ⟨z, hz, h⟩) (by simp)
      have hn : ∀ z, z ∈ n ↔ z ∈ l := fun z => by rw [i2]; simp
      by_cases hxy : x ≤ y
      · by_cases hne : y = x
        · subst hne
          simp only [insS, Int.le_refl, and_self, if_true, ne_eq, not_true, if_false, List.append_nil, decide_true, Bool.or_true]
          refine ⟨List.pairwise_append.2 ⟨i1, by simp, ?_⟩, ?_, ?_, ?_⟩
          · intro a ha c hc
            rw [List.mem_singleton] at hc; subst hc
            exact hy a ((hn a).1 ha)
          · intro a; simp only [List.mem_append, List.mem_singleton, hn]; constructor
            · rintro (h | h)
              · exact .inl (.inl h)
              · exact .inl (.inr h)
            · rintro (h | ⟨_, h⟩)
              · exact h
              · exact .inr h
          · exact ⟨fun _ => ⟨y, by simp, Int.le_refl _⟩, fun _ => trivial⟩
          · intro _; simp
        · simp only [insS, hxy, and_self, if_true, ne_eq, hne, not_false_eq_true, decide_true, Bool.or_true]
          refine ⟨?_, ?_, ?_, ?_⟩
          · unfold Up
            rw [List.append_assoc]
            refine List.pairwise_append.2 ⟨i1, by simp; omega, ?_⟩
            intro a ha c hc
            have hal := (hn a).1 ha
            have h1 := hlow a hal
            have h2 := hy a hal
            simp at hc
            rcases hc with rfl | rfl
            · exact h1
            · exact h2
          · intro a; simp only [List.mem_append, List.mem_singleton, hn]; constructor
            · rintro ((h | h) | h)
              · exact .inl (.inl h)
              · exact .inr ⟨by simp, h⟩
              · exact .inl (.inr h)
            · rintro ((h | h) | ⟨_, h⟩)
              · exact .inl (.inl h)
              · exact .inr h
              · exact .inl (.inr h)
          · exact ⟨fun _ => ⟨y, by simp, hxy⟩, fun _ => trivial⟩
          · intro _; simp
      · have hne : y ≠ x := by omega
        have hd : decide (x ≤ y) = false := decide_eq_false hxy
        simp only [insS, hxy, and_false, if_false, List.append_nil, if_pos hne, hd, Bool.or_false]
        refine ⟨List.pairwise_append.2 ⟨i1, by simp, ?_⟩, ?_, ?_, ?_⟩
        · intro a ha c hc
          rw [List.mem_singleton] at hc; subst hc
          exact hy a ((hn a).1 ha)
        · intro a; simp only [List.mem_append, List.mem_singleton, hn]; simp
        · constructor
          · intro h; cases h
          · rintro ⟨z, hz, hxz⟩
            rcases List.mem_append.1 hz with h | h
            · have := hlow z h; omega
            · rw [List.mem_singleton] at h; subst h; exact absurd hxz hxy
        · intro h; cases h
theorem insP_up (x : Int) (l : List Int) (h : Up l) : Up (insP x l) ∧ ∀ z, z ∈ insP x l ↔ z ∈ l ∨ z = x := by
  obtain ⟨i1, i2, i3, i4⟩ := insR_up x l h
  unfold insP
  split
  · rename_i hb
    refine ⟨i1, fun z => ?_⟩
    rw [i2]; simp [hb]
  · rename_i hb
    have hlow : ∀ z ∈ l, z < x := fun z hz => by
      rcases Int.lt_or_le z x with h | h
      · exact h
      · exact absurd (i3.2 ⟨z, hz, h⟩) hb
    have hn : ∀ z, z ∈ (insR x l).1 ↔ z ∈ l := fun z => by rw [i2]; simp [hb]
    refine ⟨List.pairwise_append.2 ⟨i1, by simp, ?_⟩, fun z => ?_⟩
    · intro a ha c hc
      rw [List.mem_singleton] at hc; subst hc
      exact hlow a ((hn a).1 ha)
    · simp [hn]
theorem sortR_up (l : List Int) : Up (sortR l) ∧ ∀ z, z ∈ sortR l ↔ z ∈ l := by
  induction l using snoc_ind with
  | h0 => simp [sortR, Up]
  | h1 l x ih =>
    obtain ⟨h1, h2⟩ := insP_up x _ ih.1
    rw [sortR_snoc]
    exact ⟨h1, fun z => by rw [h2, ih.2]; simp⟩
theorem up_ext : ∀ (a b : List Int), Up a → Up b → (∀ z, z ∈ a ↔ z ∈ b) → a = b
  | [], [], _, _, _ => rfl
  | [], y :: b, _, _, h => by have := (h y).2 (by simp); simp at this
  | x :: a, [], _, _, h => by have := (h x).1 (by simp); simp at this
  | x :: a, y :: b, ha, hb, h => by
    have ha' := List.pairwise_cons.1 ha
    have hb' := List.pairwise_cons.1 hb
    have hxy : x = y := by
      rcases List.mem_cons.1 ((h x).1 (by simp)) with h1 | h1
      · exact h1
      · rcases List.mem_cons.1 ((h y).2 (by simp)) with h2 | h2
        · exact h2.symm
        · have := hb'.1 x h1; have := ha'.1 y h2; omega
    subst hxy
    rw [up_ext a b ha'.2 hb'.2 (fun z => ?_)]
    constructor
    · intro hz
      rcases List.mem_cons.1 ((h z).1 (by simp [hz])) with h1 | h1
      · subst h1; have := ha'.1 z hz; omega
      · exact h1
    · intro hz
      rcases List.mem_cons.1 ((h z).2 (by simp [hz])) with h1 | h1
      · subst h1; have := hb'.1 z hz; omega
      · exact h1

/-- the library's way -/
theorem compact_up (d : Array Int) (hs : ∀ i j, i < j → j < d.size → d[i]! ≤ d[j]!) (m : Nat) (hm : m ≤ d.size) :
    Up (Lib.compactUpTo d m) ∧ (∀ z, z ∈ Lib.compactUpTo d m ↔ ∃ i, i < m ∧ d[i]! = z) := by
  induction m with
  | zero => simp [Lib.compactUpTo, Up]
  | succ m ih =>
    obtain ⟨h1, h2⟩ := ih (by omega)
    rw [Lib.compactUpTo_succ]
    by_cases hk : Lib.keeps d m = true
    · rw [if_pos hk]
      refine ⟨List.pairwise_append.2 ⟨h1, by simp, ?_⟩, fun z => ?_⟩
      · intro a ha c hc
        rw [List.mem_singleton] at hc; subst hc
        obtain ⟨i, hi, rfl⟩ := (h2 a).1 ha
        simp only [Lib.keeps, decide_eq_true_eq] at hk
        have h3 := hs (m - 1) m (by omega) (by omega)
        have h4 : d[i]! ≤ d[m - 1]! := by
          rcases Nat.lt_or_ge i (m - 1) with h | h
          · exact hs i (m - 1) h (by omega)
          · rw [show i = m - 1 by omega]; exact Int.le_refl _
        rcases hk with h | h
        · omega
        · have : d[m]! ≠ d[m - 1]! := h
          omega
      · simp only [List.mem_append, List.mem_singleton, h2]
        constructor
        · rintro (⟨i, hi, rfl⟩ | rfl)
          · exact ⟨i, by omega, rfl⟩
          · exact ⟨m, by omega, rfl⟩
        · rintro ⟨i, hi, rfl⟩
          rcases Nat.lt_or_ge i m with h | h
          · exact .inl ⟨i, h, rfl⟩
          · exact .inr (by rw [show i = m by omega])
    · rw [if_neg hk, List.append_nil]
      refine ⟨h1, fun z => ?_⟩
      rw [h2]
      simp only [Lib.keeps, decide_eq_true_eq, not_or, ne_eq, Decidable.not_not] at hk
      constructor
      · rintro ⟨i, hi, rfl⟩; exact ⟨i, by omega, rfl⟩
      · rintro ⟨i, hi, rfl⟩
        rcases Nat.lt_or_ge i m with h | h
        · exact ⟨i, h, rfl⟩
        · exact ⟨m - 1, by omega, by rw [← hk.2, show i = m by omega]⟩
def sortL (l : List Int) : List Int := Lib.compact (l.mergeSort fun x y => decide (x ≤ y))
theorem sortL_eq (l : List Int) : sortL l = sortR l := by
  have hp : (l.mergeSort fun x y => decide (x ≤ y)).Pairwise (fun a b => decide (a ≤ b) = true) := List.pairwise_mergeSort (le := fun x y => decide (x ≤ y)) (fun a b c h1 h2 => by simp at *; omega) (fun a b => by simp; omega) l
  have hm : ∀ z, z ∈ (l.mergeSort fun x y => decide (x ≤ y)) ↔ z ∈ l := fun z => List.mem_mergeSort
  unfold sortL Lib.compact
  generalize (l.mergeSort fun x y => decide (x ≤ y)) = s at *
  have hs : ∀ i j, i < j → j < s.toArray.size → s.toArray[i]! ≤ s.toArray[j]! := by
    intro i j hij hj
    have hj' : j < s.length := by simpa using hj
    have h1 := List.pairwise_iff_getElem.1 hp i j (by omega) hj' hij
    rw [getElem!_pos _ i (by simp; omega), getElem!_pos _ j hj]
    simpa using h1
  obtain ⟨h1, h2⟩ := compact_up s.toArray hs s.length (by simp)
  refine up_ext _ _ h1 (sortR_up l).1 (fun z => ?_)
  rw [h2, (sortR_up l).2, ← hm]
  constructor
  · rintro ⟨i, hi, rfl⟩
    rw [getElem!_pos _ i (by simpa using hi)]
    simp
  · intro hz
    obtain ⟨i, hi, rfl⟩ := List.getElem_of_mem hz
    exact ⟨i, hi, by rw [getElem!_pos _ i (by simpa using hi)]; simp⟩

/-- where a search ends in a strictly rising list -/
theorem search_up (s : List Int) (n : Int) (h : Up s) (r : Nat) (hr : r ≤ s.length) (hlo : ∀ (h0 : 0 < r), s[r - 1]'(by omega) < n) (hhi : ∀ (h1 : r < s.length), n ≤ s[r]) :
    s.countP (fun x => decide (x < n)) = r ∧ (decide (r < s.length) && (s[r]? == some n)) = decide (n ∈ s) := by
  have hp := List.pairwise_iff_getElem.1 h
  have hlow : ∀ i (hi : i < r), s[i]'(by omega) < n := fun i hi => by
    have h1 := hlo (by omega)
    rcases Nat.lt_or_ge i (r - 1) with h2 | h2
    · have := hp i (r - 1) (by omega) (by omega) h2; omega
    · have e : i = r - 1 := by omega
      subst e; exact h1
  have hhigh : ∀ i (hi : r ≤ i) (hi2 : i < s.length), n ≤ s[i] := fun i hi hi2 => by
    have h1 := hhi (by omega)
    rcases Nat.lt_or_ge r i with h2 | h2
    · have := hp r i (by omega) hi2 h2; omega
    · have e : i = r := by omega
      subst e; exact h1
  constructor
  · rw [← List.take_append_drop r s, List.countP_append]
    have e1 : (s.take r).countP (fun x => decide (x < n)) = (s.take r).length := List.countP_eq_length.2 (fun a ha => by
      obtain ⟨i, hi, rfl⟩ := List.getElem_of_mem ha
      rw [List.length_take] at hi
      rw [List.getElem_take]
      exact decide_eq_true (hlow i (by omega)))
    have e2 : (s.drop r).countP (fun x => decide (x < n)) = 0 := List.countP_eq_zero.2 (fun a ha => by
      obtain ⟨i, hi, rfl⟩ := List.getElem_of_mem ha
      rw [List.length_drop] at hi
      rw [List.getElem_drop]
      have := hhigh (r + i) (by omega) (by omega)
      simp; omega)
    rw [e1, e2, List.length_take]; omega
  · by_cases hm : n ∈ s
    · obtain ⟨i, hi, he⟩ := List.getElem_of_mem hm
      have h1 : ¬ i < r := fun h => by have := hlow i h; omega
      have h2 := hhi (by omega)
      have h3 : i = r := by
        rcases Nat.lt_or_ge r i with h4 | h4
        · have := hp r i (by omega) hi h4; omega
        · omega
      subst h3
      simp [hm, hi, he]
    · have : ¬ (r < s.length ∧ s[r]? = some n) := fun ⟨h1, h2⟩ => hm (List.mem_of_getElem? h2)
      simp only [hm, decide_false]
      rw [Bool.eq_false_iff]
      intro hc
      simp only [Bool.and_eq_true, decide_eq_true_eq, beq_iff_eq] at hc
      exact this hc
end
section
open Go.RowKit

theorem i64InfoZ : (Try.prog.info? 2).map (fun i => (i.zero, i.size, i.bytes)) = some (some (.int .i64 0), 1, 8) := by kernel_rfl
theorem one_oneZ (n : Int) : ∀ u ∈ [Value.int .i64 n], u.oneCell' = true := by intro u hu; simp at hu; subst hu; rfl
theorem cells_at_newZ (w : World) (t : TypeId) (a : Value) : ∀ (j : Nat) (u : Value), [a][j]? = some u → (w.alloc (.cells #[a] t)).cell? ((⟨w.heap.size, 0, none⟩ : Addr).add j) = some u := fun j u h => cells_new w [a] t j u h
theorem insS_tf (x y : Int) (n : List Int) (h : y = x) : insS x (n, true) y = (n, true) := by simp [insS, h]
theorem insS_tn (x y : Int) (n : List Int) (h : y ≠ x) : insS x (n, true) y = (n ++ [y], true) := by simp [insS, h]
theorem insS_fy (x y : Int) (n : List Int) (h1 : x ≤ y) (h : y = x) : insS x (n, false) y = (n ++ [x], true) := by simp [insS, h]
theorem insS_fyn (x y : Int) (n : List Int) (h1 : x ≤ y) (h : y ≠ x) : insS x (n, false) y = ((n ++ [x]) ++ [y], true) := by simp [insS, h, h1]
theorem insS_fn (x y : Int) (n : List Int) (h1 : ¬ x ≤ y) : insS x (n, false) y = (n ++ [y], false) := by
  have : y ≠ x := by omega
  simp [insS, h1, this]

set_option maxRecDepth 100000 in
set_option maxHeartbeats 4000000 in
theorem refSortedO_any (l : List Int) (v : Value) (w : World) (hl : l.length ≤ 100000) (h : LI w v l) :
    Calls Try.prog 17 #[v] w fun e w' => ∃ v', e = .returned v' ∧ w'.ownsRow w.heap.size 2 1 v' (sortR l).length ((sortR l).map (Value.int .i64)) ∧ Below w.heap.size w w' := by
  obtain ⟨i0, hi0, hz0, hz1, hz2⟩ := info_parts i64InfoZ
  have h0 := h
  obtain ⟨A, ca, rfl, hca, hr0⟩ := h0
  have H := hide h
  clear h hr0
  go_enter Try.func17, Try.ntmps17
  go_wp2_with fail
  go_loopw [3, 4] (fun ov iv wr => ∃ (k : Nat) (out : List Int), out = sortR (l.take k) ∧ k ≤ l.length ∧ iv = .int .i64 (k : Int) ∧ out.length ≤ k ∧ wr.ownsRow w.heap.size 2 1 ov out.length (out.map (Value.int .i64)) ∧ Below w.heap.size w wr)
    (fun ov iv wr => l.length - (intOf iv).toNat)
  case atStart => exact ⟨0, [], by simp [sortR], Nat.zero_le _, rfl, Nat.le_refl _, World.ownsRow_nil _ _ _ _, Below.refl _ _⟩
  case round =>
    obtain ⟨k, out, hout, hk, rfl, holen, hown, hbl⟩ := hrel
    obtain ⟨O, co, rfl, hco⟩ := own_form hown
    by_cases hlt : k < l.length
    · obtain ⟨b1, o1, rfl, _, hcell⟩ := (H.out.below hbl).at_ hlt
      have hlow : b1 < wr.heap.size := by
        obtain ⟨b2, o2, e, hb2, _⟩ := (H.out.below hbl).at_ hlt
        cases e; exact hb2
      have hi : (k : Int) < (l.length : Int) := by omega
      have hst := sortR_take l k hlt
      rw [← hout] at hst
      have Hst := hide hst
      have LO := hide (LI.of_own hown rfl)
      clear hst hout
      generalize l[k] = x at *
      have Hown := hide hown
      clear hown
      go_wp2_with fail
      have hBs : w.heap.size ≤ wr.heap.size := hbl.size
      have hlenX : Hid (∀ m, (insR x (out.take m)).1.length ≤ m + 1) := hide (fun m => by have := insR_len x (out.take m); have h2 := List.length_take_le m out; split at this <;> omega)
      obtain ⟨W1, hW1⟩ : ∃ W, W = wr := ⟨wr, rfl⟩
      subst hW1
      generalize hB : W1.heap.size = B at *
      go_loopw [5, 6, 7] (fun nv bv jv wr => ∃ (m : Nat) (nx : List Int) (fl : Bool), insR x (out.take m) = (nx, fl) ∧ m ≤ out.length ∧ jv = .int .i64 (m : Int) ∧ bv = .bool fl ∧ nx.length ≤ m + 1 ∧ wr.ownsRow B 2 1 nv nx.length (nx.map (Value.int .i64)) ∧ Below B W1 wr)
        (fun nv bv jv wr => out.length - (intOf jv).toNat)
      case atStart => exact ⟨0, [], false, rfl, Nat.zero_le _, rfl, rfl, Nat.zero_le _, World.ownsRow_nil _ _ _ _, by rw [← hB]; exact Below.refl _ _⟩
      case round =>
        obtain ⟨m, nx, fl, hir, hm, rfl, rfl, hnl, hownn, hbli⟩ := hrel
        have hsz0 : B ≤ wr.heap.size := by have := hbli.size; rw [hB] at this; exact this
        have hcx0 : wr.cell? ⟨b1, o1 + k, none⟩ = some (.int .i64 x) := (hbli.cell (by omega)).trans hcell
        have Hownn := hide hownn
        clear hownn
        by_cases hmlt : m < out.length
        · obtain ⟨b2, o2, rfl, hb2l, hcell2⟩ := LO.out.at_ hmlt
          rw [hB] at hb2l
          have hmi : (m : Int) < (out.length : Int) := by omega
          have ht := insR_take x out m hmlt
          rw [hir] at ht
          generalize out[m] = y at *
          have hcy0 : wr.cell? ⟨b2, o2 + m, none⟩ = some (.int .i64 y) := (hbli.cell (by omega)).trans hcell2
          have hlx := hlenX.out (m + 1)
          rw [ht] at hlx
          clear hir
          by_cases hyx : y = x
          · have h1 : (y != x) = false := by simp [hyx]
            cases fl with
            | true =>
              rw [insS_tf x y nx hyx] at ht hlx
              clear hyx
              have Ht := hide ht
              have hlx2 := hide hlx
              clear ht hlx
              go_wp2_with fail
              go_quiet (fail)
              have Hownq1 := hide (own_below' Hownn.out (below_drewN (Below.refl _ _) nq))
              have hblq1 := below_drewN hbli nq
              generalize wr.drewN nq = W2 at *
              have hsz1 : B ≤ W2.heap.size := by have := hblq1.size; rw [hB] at this; exact this
              have hcx1 : W2.cell? ⟨b1, o1 + k, none⟩ = some (.int .i64 x) := (hblq1.cell (by omega)).trans hcell
              have hcy1 : W2.cell? ⟨b2, o2 + m, none⟩ = some (.int .i64 y) := (hblq1.cell (by omega)).trans hcell2
              go_wp2_with fail
              go_quiet (fail)
              have Hownq2 := hide (own_below' Hownq1.out (below_drewN (Below.refl _ _) nq))
              have hblq2 := below_drewN hblq1 nq
              generalize W2.drewN nq = W3 at *
              have hsz2 : B ≤ W3.heap.size := by have := hblq2.size; rw [hB] at this; exact this
              have hcx2 : W3.cell? ⟨b1, o1 + k, none⟩ = some (.int .i64 x) := (hblq2.cell (by omega)).trans hcell
              have hcy2 : W3.cell? ⟨b2, o2 + m, none⟩ = some (.int .i64 y) := (hblq2.cell (by omega)).trans hcell2
              go_wp2_with fail
              go_roundw
              case rel => exact ⟨m + 1, _, _, Ht.out, by omega, by go_num, rfl, hlx2.out, Hownq2.out, hblq2⟩
              case measure => simp [intOf]; omega
            | false =>
              have h2 : decide (x ≤ y) = true := decide_eq_true (by omega)
              rw [insS_fy x y nx (by omega) hyx] at ht hlx
              clear hyx
              have Ht := hide ht
              have hlx2 := hide hlx
              clear ht hlx
              go_wp2_with fail
              go_quiet (fail)
              have Hownq1 := hide (own_below' Hownn.out (below_drewN (Below.refl _ _) nq))
              have hblq1 := below_drewN hbli nq
              generalize wr.drewN nq = W2 at *
              have hsz1 : B ≤ W2.heap.size := by have := hblq1.size; rw [hB] at this; exact this
              have hcx1 : W2.cell? ⟨b1, o1 + k, none⟩ = some (.int .i64 x) := (hblq1.cell (by omega)).trans hcell
              have hcy1 : W2.cell? ⟨b2, o2 + m, none⟩ = some (.int .i64 y) := (hblq1.cell (by omega)).trans hcell2
              go_wp2_with (at_builtin; refine wpList_append_own _ rfl _ _ 23 rfl B 2 i0 (.int .i64 0) 1 8 Try.underlying23 hi0 hz0 hz1 hz2 rfl (by decide) _ _ _ rfl (Hownq1.out.alloc _) ⟨W2.heap.size, 0, none⟩ 1 1 [.int .i64 x] rfl rfl (cells_at_newZ _ _ _) (one_oneZ _) (by unfold maxLen; first | omega | (simp; omega)) (by first | omega | (simp; omega)) (by simp; omega) ?_; intro v2 w2 hown2 hg2 _)
              have hbl2 : Below B W1 w2 := (hblq1.alloc hsz1 _).grown hg2 (by simp; omega) (fun j hj => (World.ownsRow.lt Hownq1.out j hj).1)
              have hcx2 : w2.cell? ⟨b1, o1 + k, none⟩ = some (.int .i64 x) := (hbl2.cell (by omega)).trans hcell
              have hcy2 : w2.cell? ⟨b2, o2 + m, none⟩ = some (.int .i64 y) := (hbl2.cell (by omega)).trans hcell2
              have hsz2 : B ≤ w2.heap.size := (by have := hbl2.size; rw [hB] at this; exact this)
              rw [show (nx).map (Value.int .i64) ++ [Value.int .i64 x] = (nx ++ [x]).map (Value.int .i64) by simp, show (nx).length + 1 = (nx ++ [x]).length by simp] at hown2
              have Hown2 := hide hown2
              clear hown2 hg2
              go_quiet (fail)
              have Hownq3 := hide (own_below' Hown2.out (below_drewN (Below.refl _ _) nq))
              have hblq3 := below_drewN hbl2 nq
              generalize w2.drewN nq = W4 at *
              have hsz3 : B ≤ W4.heap.size := by have := hblq3.size; rw [hB] at this; exact this
              have hcx3 : W4.cell? ⟨b1, o1 + k, none⟩ = some (.int .i64 x) := (hblq3.cell (by omega)).trans hcell
              have hcy3 : W4.cell? ⟨b2, o2 + m, none⟩ = some (.int .i64 y) := (hblq3.cell (by omega)).trans hcell2
              go_wp2_with fail
              go_roundw
              case rel => exact ⟨m + 1, _, _, Ht.out, by omega, by go_num, rfl, hlx2.out, Hownq3.out, hblq3⟩
              case measure => simp [intOf]; omega
          · have h1 : (y != x) = true := by simp [hyx]
            cases fl with
            | true =>
              rw [insS_tn x y nx hyx] at ht hlx
              clear hyx
              have Ht := hide ht
              have hlx2 := hide hlx
              clear ht hlx
              go_wp2_with fail
              go_quiet (fail)
              have Hownq1 := hide (own_below' Hownn.out (below_drewN (Below.refl _ _) nq))
              have hblq1 := below_drewN hbli nq
              generalize wr.drewN nq = W2 at *
              have hsz1 : B ≤ W2.heap.size := by have := hblq1.size; rw [hB] at this; exact this
              have hcx1 : W2.cell? ⟨b1, o1 + k, none⟩ = some (.int .i64 x) := (hblq1.cell (by omega)).trans hcell
              have hcy1 : W2.cell? ⟨b2, o2 + m, none⟩ = some (.int .i64 y) := (hblq1.cell (by omega)).trans hcell2
              go_wp2_with fail
              go_quiet (fail)
              have Hownq2 := hide (own_below' Hownq1.out (below_drewN (Below.refl _ _) nq))
              have hblq2 := below_drewN hblq1 nq
              generalize W2.drewN nq = W3 at *
              have hsz2 : B ≤ W3.heap.size := by have := hblq2.size; rw [hB] at this; exact this
              have hcx2 : W3.cell? ⟨b1, o1 + k, none⟩ = some (.int .i64 x) := (hblq2.cell (by omega)).trans hcell
              have hcy2 : W3.cell? ⟨b2, o2 + m, none⟩ = some (.int .i64 y) := (hblq2.cell (by omega)).trans hcell2
              go_wp2_with (at_builtin; refine wpList_append_own _ rfl _ _ 23 rfl B 2 i0 (.int .i64 0) 1 8 Try.underlying23 hi0 hz0 hz1 hz2 rfl (by decide) _ _ _ rfl (Hownq2.out.alloc _) ⟨W3.heap.size, 0, none⟩ 1 1 [.int .i64 y] rfl rfl (cells_at_newZ _ _ _) (one_oneZ _) (by unfold maxLen; first | omega | (simp; omega)) (by first | omega | (simp; omega)) (by simp; omega) ?_; intro v3 w3 hown3 hg3 _)
              have hbl3 : Below B W1 w3 := (hblq2.alloc hsz2 _).grown hg3 (by simp; omega) (fun j hj => (World.ownsRow.lt Hownq2.out j hj).1)
              have hcx3 : w3.cell? ⟨b1, o1 + k, none⟩ = some (.int .i64 x) := (hbl3.cell (by omega)).trans hcell
              have hcy3 : w3.cell? ⟨b2, o2 + m, none⟩ = some (.int .i64 y) := (hbl3.cell (by omega)).trans hcell2
              have hsz3 : B ≤ w3.heap.size := (by have := hbl3.size; rw [hB] at this; exact this)
              rw [show (nx).map (Value.int .i64) ++ [Value.int .i64 y] = (nx ++ [y]).map (Value.int .i64) by simp, show (nx).length + 1 = (nx ++ [y]).length by simp] at hown3
              have Hown3 := hide hown3
              clear hown3 hg3
              go_roundw
              case rel => exact ⟨m + 1, _, _, Ht.out, by omega, by go_num, rfl, hlx2.out, Hown3.out, hbl3⟩
              case measure => simp [intOf]; omega
            | false =>
              by_cases hxy : x ≤ y
              · have h2 : decide (x ≤ y) = true := decide_eq_true hxy
                rw [insS_fyn x y nx hxy hyx] at ht hlx
                clear hyx hxy
                have Ht := hide ht
                have hlx2 := hide hlx
                clear ht hlx
                go_wp2_with fail
                go_quiet (fail)
                have Hownq1 := hide (own_below' Hownn.out (below_drewN (Below.refl _ _) nq))
                have hblq1 := below_drewN hbli nq
                generalize wr.drewN nq = W2 at *
                have hsz1 : B ≤ W2.heap.size := by have := hblq1.size; rw [hB] at this; exact this
                have hcx1 : W2.cell? ⟨b1, o1 + k, none⟩ = some (.int .i64 x) := (hblq1.cell (by omega)).trans hcell
                have hcy1 : W2.cell? ⟨b2, o2 + m, none⟩ = some (.int .i64 y) := (hblq1.cell (by omega)).trans hcell2
                go_wp2_with (at_builtin; refine wpList_append_own _ rfl _ _ 23 rfl B 2 i0 (.int .i64 0) 1 8 Try.underlying23 hi0 hz0 hz1 hz2 rfl (by decide) _ _ _ rfl (Hownq1.out.alloc _) ⟨W2.heap.size, 0, none⟩ 1 1 [.int .i64 x] rfl rfl (cells_at_newZ _ _ _) (one_oneZ _) (by unfold maxLen; first | omega | (simp; omega)) (by first | omega | (simp; omega)) (by simp; omega) ?_; intro v2 w2 hown2 hg2 _)
                have hbl2 : Below B W1 w2 := (hblq1.alloc hsz1 _).grown hg2 (by simp; omega) (fun j hj => (World.ownsRow.lt Hownq1.out j hj).1)
                have hcx2 : w2.cell? ⟨b1, o1 + k, none⟩ = some (.int .i64 x) := (hbl2.cell (by omega)).trans hcell
                have hcy2 : w2.cell? ⟨b2, o2 + m, none⟩ = some (.int .i64 y) := (hbl2.cell (by omega)).trans hcell2
                have hsz2 : B ≤ w2.heap.size := (by have := hbl2.size; rw [hB] at this; exact this)
                rw [show (nx).map (Value.int .i64) ++ [Value.int .i64 x] = (nx ++ [x]).map (Value.int .i64) by simp, show (nx).length + 1 = (nx ++ [x]).length by simp] at hown2
                have Hown2 := hide hown2
                clear hown2 hg2
                go_quiet (fail)
                have Hownq3 := hide (own_below' Hown2.out (below_drewN (Below.refl _ _) nq))
                have hblq3 := below_drewN hbl2 nq
                generalize w2.drewN nq = W4 at *
                have hsz3 : B ≤ W4.heap.size := by have := hblq3.size; rw [hB] at this; exact this
                have hcx3 : W4.cell? ⟨b1, o1 + k, none⟩ = some (.int .i64 x) := (hblq3.cell (by omega)).trans hcell
                have hcy3 : W4.cell? ⟨b2, o2 + m, none⟩ = some (.int .i64 y) := (hblq3.cell (by omega)).trans hcell2
                go_wp2_with (at_builtin; refine wpList_append_own _ rfl _ _ 23 rfl B 2 i0 (.int .i64 0) 1 8 Try.underlying23 hi0 hz0 hz1 hz2 rfl (by decide) _ _ _ rfl (Hownq3.out.alloc _) ⟨W4.heap.size, 0, none⟩ 1 1 [.int .i64 y] rfl rfl (cells_at_newZ _ _ _) (one_oneZ _) (by unfold maxLen; first | omega | (simp; omega)) (by first | omega | (simp; omega)) (by simp; omega) ?_; intro v4 w4 hown4 hg4 _)
                have hbl4 : Below B W1 w4 := (hblq3.alloc hsz3 _).grown hg4 (by simp; omega) (fun j hj => (World.ownsRow.lt Hownq3.out j hj).1)
                have hcx4 : w4.cell? ⟨b1, o1 + k, none⟩ = some (.int .i64 x) := (hbl4.cell (by omega)).trans hcell
                have hcy4 : w4.cell? ⟨b2, o2 + m, none⟩ = some (.int .i64 y) := (hbl4.cell (by omega)).trans hcell2
                have hsz4 : B ≤ w4.heap.size := (by have := hbl4.size; rw [hB] at this; exact this)
                rw [show (nx ++ [x]).map (Value.int .i64) ++ [Value.int .i64 y] = (nx ++ [x] ++ [y]).map (Value.int .i64) by simp, show (nx ++ [x]).length + 1 = (nx ++ [x] ++ [y]).length by simp] at hown4
                have Hown4 := hide hown4
                clear hown4 hg4
                go_roundw
                case rel => exact ⟨m + 1, _, _, Ht.out, by omega, by go_num, rfl, hlx2.out, Hown4.out, hbl4⟩
                case measure => simp [intOf]; omega
              · have h2 : decide (x ≤ y) = false := decide_eq_false hxy
                rw [insS_fn x y nx hxy] at ht hlx
                clear hyx hxy
                have Ht := hide ht
                have hlx2 := hide hlx
                clear ht hlx
                go_wp2_with fail
                go_quiet (fail)
                have Hownq1 := hide (own_below' Hownn.out (below_drewN (Below.refl _ _) nq))
                have hblq1 := below_drewN hbli nq
                generalize wr.drewN nq = W2 at *
                have hsz1 : B ≤ W2.heap.size := by have := hblq1.size; rw [hB] at this; exact this
                have hcx1 : W2.cell? ⟨b1, o1 + k, none⟩ = some (.int .i64 x) := (hblq1.cell (by omega)).trans hcell
                have hcy1 : W2.cell? ⟨b2, o2 + m, none⟩ = some (.int .i64 y) := (hblq1.cell (by omega)).trans hcell2
                go_wp2_with fail
                go_quiet (fail)
                have Hownq2 := hide (own_below' Hownq1.out (below_drewN (Below.refl _ _) nq))
                have hblq2 := below_drewN hblq1 nq
                generalize W2.drewN nq = W3 at *
                have hsz2 : B ≤ W3.heap.size := by have := hblq2.size; rw [hB] at this; exact this
                have hcx2 : W3.cell? ⟨b1, o1 + k, none⟩ = some (.int .i64 x) := (hblq2.cell (by omega)).trans hcell
                have hcy2 : W3.cell? ⟨b2, o2 + m, none⟩ = some (.int .i64 y) := (hblq2.cell (by omega)).trans hcell2
                go_wp2_with (at_builtin; refine wpList_append_own _ rfl _ _ 23 rfl B 2 i0 (.int .i64 0) 1 8 Try.underlying23 hi0 hz0 hz1 hz2 rfl (by decide) _ _ _ rfl (Hownq2.out.alloc _) ⟨W3.heap.size, 0, none⟩ 1 1 [.int .i64 y] rfl rfl (cells_at_newZ _ _ _) (one_oneZ _) (by unfold maxLen; first | omega | (simp; omega)) (by first | omega | (simp; omega)) (by simp; omega) ?_; intro v3 w3 hown3 hg3 _)
                have hbl3 : Below B W1 w3 := (hblq2.alloc hsz2 _).grown hg3 (by simp; omega) (fun j hj => (World.ownsRow.lt Hownq2.out j hj).1)
                have hcx3 : w3.cell? ⟨b1, o1 + k, none⟩ = some (.int .i64 x) := (hbl3.cell (by omega)).trans hcell
                have hcy3 : w3.cell? ⟨b2, o2 + m, none⟩ = some (.int .i64 y) := (hbl3.cell (by omega)).trans hcell2
                have hsz3 : B ≤ w3.heap.size := (by have := hbl3.size; rw [hB] at this; exact this)
                rw [show (nx).map (Value.int .i64) ++ [Value.int .i64 y] = (nx ++ [y]).map (Value.int .i64) by simp, show (nx).length + 1 = (nx ++ [y]).length by simp] at hown3
                have Hown3 := hide hown3
                clear hown3 hg3
                go_roundw
                case rel => exact ⟨m + 1, _, _, Ht.out, by omega, by go_num, rfl, hlx2.out, Hown3.out, hbl3⟩
                case measure => simp [intOf]; omega
        · obtain rfl : m = out.length := by omega
          rw [List.take_length] at hir
          have hil := insP_len x out
          cases fl with
          | true =>
            have hP : insP x out = nx := by unfold insP; rw [hir]; rfl
            rw [hP] at Hst hil
            have hol2 := hide (show nx.length ≤ k + 1 by omega)
            clear hir hP hil
            go_wp2_with fail
            go_roundw
            case rel => exact ⟨k + 1, _, Hst.out.symm, by omega, by go_num, hol2.out, own_base Hownn.out hBs, (hbl.trans (hbli.mono hBs))⟩
            case measure => simp [intOf]; omega
          | false =>
            have hP : insP x out = nx ++ [x] := by unfold insP; rw [hir]; rfl
            rw [hP] at Hst hil
            have hol2 := hide (show (nx ++ [x]).length ≤ k + 1 by omega)
            clear hir hP hil
            go_wp2_with (at_builtin; refine wpList_append_own _ rfl _ _ 23 rfl B 2 i0 (.int .i64 0) 1 8 Try.underlying23 hi0 hz0 hz1 hz2 rfl (by decide) _ _ _ rfl (Hownn.out.alloc _) ⟨wr.heap.size, 0, none⟩ 1 1 [.int .i64 x] rfl rfl (cells_at_newZ _ _ _) (one_oneZ _) (by unfold maxLen; first | omega | (simp; omega)) (by first | omega | (simp; omega)) (by simp; omega) ?_; intro v1 w1 hown1 hg1 _)
            have hbl1 : Below B W1 w1 := (hbli.alloc hsz0 _).grown hg1 (by simp; omega) (fun j hj => (World.ownsRow.lt Hownn.out j hj).1)
            have hcx1 : w1.cell? ⟨b1, o1 + k, none⟩ = some (.int .i64 x) := (hbl1.cell (by omega)).trans hcell
            have hsz1 : B ≤ w1.heap.size := (by have := hbl1.size; rw [hB] at this; exact this)
            rw [show (nx).map (Value.int .i64) ++ [Value.int .i64 x] = (nx ++ [x]).map (Value.int .i64) by simp, show (nx).length + 1 = (nx ++ [x]).length by simp] at hown1
            have Hown1 := hide hown1
            clear hown1 hg1
            go_roundw
            case rel => exact ⟨k + 1, _, Hst.out.symm, by omega, by go_num, hol2.out, own_base Hown1.out hBs, (hbl.trans (hbl1.mono hBs))⟩
            case measure => simp [intOf]; omega
    · obtain rfl : k = l.length := by omega
      rw [List.take_length] at hout
      have Ho := hide hout
      have Hown := hide hown
      clear hown hout
      go_wp2_with fail
      go_ret
      rw [← Ho.out]
      exact ⟨_, rfl, Hown.out, hbl⟩
theorem refSorted_any (l : List Int) (v : Value) (w : World) (hl : l.length ≤ 100000) (h : LI w v l) :
    Calls Try.prog 17 #[v] w fun e w' => ∃ v', e = .returned v' ∧ LN w.heap.size w' v' (sortR l) ∧ Below w.heap.size w w' :=
  (refSortedO_any l v w hl h).mono fun e w' ⟨v', h1, h2, h3⟩ => ⟨v', h1, LN.of_own h2 rfl, h3⟩
end
end Go.Proofs.Ytfeclebkaambhaa
