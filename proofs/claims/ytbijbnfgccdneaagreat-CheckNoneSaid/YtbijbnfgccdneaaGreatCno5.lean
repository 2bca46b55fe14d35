/-
  Parts of the proof: AlI, AlJ0, AlTy, AlJ, AlK, EvSpec, Rep, EvRep, Struct, Mod, EvA, C1, EvOpen, ModOpen.
-/
import Derived.Test.YtbijbnfgccdneaaGreatCno4
import Derived.RangeFuncLeaves
import Derived.RangeFuncRecord
import Derived.Test.YtbijbnfgccdneaaGreatProg
import Derived.Laws.StructEq
import Derived.WalkKit
import Derived.WalkLawsBesides
import Derived.ProofKit
import Derived.OpenShut
import Derived.Deep.Slices
import Derived.BigQuiet
import Derived.Deep.QuietTactic
set_option linter.unusedVariables false
set_option linter.unusedSimpArgs false
namespace Go.Proofs.YtbijbnfgccdneaaGreat
section
open Go.RowKit

/-- what is given back: the objects that it names are slices of the call's own -/
def aTabs (st : ASt) (ren : List Nat) : ATab → Prop
  | [] => True
  | (k, o) :: T => (k < ren.length ∧ (∃ e sz rows, o = some (.row e sz rows)) ∧ st.tab.get (ren.getD k 0) = o) ∧ aTabs st ren T
def aGives (R : Res) (st : ASt) (av : AV) : Prop := ∃ ren : List Nat, ren.Nodup ∧ R.r.ren ren = av ∧ aTabs st ren R.tab
def aResL (P : Program) (st : ASt) : List ResultVar → (List AV → Prop) → Prop
  | [], K => K []
  | .tmp t :: l, K => aResL P st l fun avs => K (st.get t :: avs)
  | .cell p ty :: l, K => aLoad P ty st.tab (st.get p) fun av => aResL P st l fun avs => K (av :: avs)
def aOne : List AV → AV
  | [x] => x
  | l => .tup l
def aRetR (P : Program) (rs : List ResultVar) (Post : Res → Prop) : Exit → ASt → Prop
  | .normal, st => aResL P st rs fun avs => ∃ R, Post R ∧ R.Ok ∧ aGives R st (aOne avs)
  | .ret, st => aResL P st rs fun avs => ∃ R, Post R ∧ R.Ok ∧ aGives R st (aOne avs)
  | _, _ => False
def aRet (P : Program) (rs : List ResultVar) (R : Res) : Exit → ASt → Prop
  | .normal, st => aResL P st rs fun avs => aGives R st (aOne avs)
  | .ret, st => aResL P st rs fun avs => aGives R st (aOne avs)
  | _, _ => False
theorem aRet_n {P : Program} {rs : List ResultVar} {R : Res} {st : ASt} : aRet P rs R .normal st = aResL P st rs fun avs => aGives R st (aOne avs) := rfl
theorem aRet_r {P : Program} {rs : List ResultVar} {R : Res} {st : ASt} : aRet P rs R .ret st = aResL P st rs fun avs => aGives R st (aOne avs) := rfl
theorem aRetR_n {P : Program} {rs : List ResultVar} {Post : Res → Prop} {st : ASt} : aRetR P rs Post .normal st = aResL P st rs fun avs => ∃ R, Post R ∧ R.Ok ∧ aGives R st (aOne avs) := rfl
theorem aRetR_r {P : Program} {rs : List ResultVar} {Post : Res → Prop} {st : ASt} : aRetR P rs Post .ret st = aResL P st rs fun avs => ∃ R, Post R ∧ R.Ok ∧ aGives R st (aOne avs) := rfl
/-- what a method leaves -/
def aRetH (P : Program) (rs : List ResultVar) (t : TypeId) (n : Nat) (Post : AV → List AV → List AObj → Prop) : Exit → ASt → Prop
  | .normal, st => aResL P st rs fun avs => ∃ cells' objs', Post (aOne avs) cells' objs' ∧ roA (aOne avs) ∧ (cells'.length = n ∧ AV.ltL (objs'.length + 1) cells' ∧ ∀ o ∈ objs', plainO o) ∧ Weak st ⟨st.n, [(0, .op 0 0 0)], tabN 0 (.box t cells' :: objs'), objs'.length + 1⟩
  | .ret, st => aResL P st rs fun avs => ∃ cells' objs', Post (aOne avs) cells' objs' ∧ roA (aOne avs) ∧ (cells'.length = n ∧ AV.ltL (objs'.length + 1) cells' ∧ ∀ o ∈ objs', plainO o) ∧ Weak st ⟨st.n, [(0, .op 0 0 0)], tabN 0 (.box t cells' :: objs'), objs'.length + 1⟩
  | _, _ => False
theorem aRetH_n {P : Program} {rs : List ResultVar} {t : TypeId} {n : Nat} {Post : AV → List AV → List AObj → Prop} {st : ASt} : aRetH P rs t n Post .normal st = aResL P st rs fun avs => ∃ cells' objs', Post (aOne avs) cells' objs' ∧ roA (aOne avs) ∧ (cells'.length = n ∧ AV.ltL (objs'.length + 1) cells' ∧ ∀ o ∈ objs', plainO o) ∧ Weak st ⟨st.n, [(0, .op 0 0 0)], tabN 0 (.box t cells' :: objs'), objs'.length + 1⟩ := rfl
theorem aRetH_r {P : Program} {rs : List ResultVar} {t : TypeId} {n : Nat} {Post : AV → List AV → List AObj → Prop} {st : ASt} : aRetH P rs t n Post .ret st = aResL P st rs fun avs => ∃ cells' objs', Post (aOne avs) cells' objs' ∧ roA (aOne avs) ∧ (cells'.length = n ∧ AV.ltL (objs'.length + 1) cells' ∧ ∀ o ∈ objs', plainO o) ∧ Weak st ⟨st.n, [(0, .op 0 0 0)], tabN 0 (.box t cells' :: objs'), objs'.length + 1⟩ := rfl
def envOf : Nat → List AV → List (Nat × AV)
  | _, [] => []
  | k, a :: l => (k, a) :: envOf (k + 1) l
theorem aget_envOf : ∀ (l : List AV) (k t : Nat), aget (envOf k l) t = if k ≤ t then l.getD (t - k) .any else .any
  | [], k, t => by simp [envOf, aget]
  | a :: l, k, t => by
    simp only [envOf, aget]
    rw [aget_envOf l (k + 1) t]
    by_cases h : t = k
    · subst h
      simp
    · rw [if_neg h]
      by_cases h2 : k ≤ t
      · rw [if_pos (by omega), if_pos h2, show t - k = (t - (k + 1)) + 1 by omega]
        simp
      · rw [if_neg (by omega), if_neg h2]

section
variable {P : Program} {cx : Cx} {a : Act} {w w' : World} {tab : ATab} {st : ASt} {L : Nat → Value} {nx : Nat}
theorem tabs_get {ren : List Nat} : ∀ {T : ATab} {k : Nat} {o : AObj}, aTabs st ren T → T.get k = some o → k < ren.length ∧ (∃ e sz rows, o = .row e sz rows) ∧ st.tab.get (ren.getD k 0) = some o
  | [], k, o, _, h => by cases h
  | (j, oo) :: T, k, o, hp, h => by
    rw [ATab.get_cons] at h
    split at h
    · rename_i e
      subst e
      subst h
      obtain ⟨h1, ⟨e, sz, rows, h2⟩, h3⟩ := hp.1
      cases h2
      exact ⟨h1, ⟨e, sz, rows, rfl⟩, h3⟩
    · exact tabs_get hp.2 h
theorem asAddr_of_load {t : TypeId} {v u : Value} (h : (Instr.loadAt t v).run P w = .ok u w) : (do loadVar t (← asAddr v) : Sem Value).run P w = .ok u w := by
  cases v with
  | pointer p =>
    cases p with
    | none => simp [Instr.loadAt, Instr.sureAddr, Sem.run_bind] at h
    | some ad => simpa [Instr.loadAt, Instr.sureAddr, asAddr, Sem.run_bind] using h
  | _ => simp [Instr.loadAt, Instr.sureAddr, Sem.run_bind] at h
def resVar (tmps : Array Value) : ResultVar → Sem Value
  | .tmp t => pure (tmps.getD t undef)
  | .cell p t => do loadVar t (← asAddr (tmps.getD p undef))
theorem results_eq (fn : Func) (tmps : Array Value) : results fn tmps = (do
    let vs ← fn.results.mapM (resVar tmps)
    pure (if h : vs.size = 1 then vs[0] else .tuple vs)) := by
  unfold results
  congr 1
theorem resL_ok (h : Conc cx a w st L) : ∀ (l : List ResultVar) (K : List AV → Prop), aResL P st l K →
    ∃ vs avs, K avs ∧ vs.length = avs.length ∧ (∀ (j : Nat) (v : Value) (av : AV), vs[j]? = some v → avs[j]? = some av → RVx cx w st.tab L v av) ∧
      (l.mapM (resVar a.tmps) : Sem (List Value)).run P w = .ok vs w
  | [], K, hp => ⟨[], [], hp, rfl, by simp, by simp⟩
  | .tmp t :: l, K, hp => by
    obtain ⟨vs, avs, h1, h2, h3, h4⟩ := resL_ok h l _ hp
    refine ⟨a.tmps.getD t undef :: vs, st.get t :: avs, h1, by simp [h2], fun j v av h5 h6 => ?_, ?_⟩
    · cases j with
      | zero =>
        cases h5
        cases h6
        exact (h.env t).1
      | succ j => exact h3 j v av (by simpa using h5) (by simpa using h6)
    · simp only [List.mapM_cons, resVar, Sem.run_bind, Sem.run_pure, Result.andThen_ok, h4]
  | .cell p ty :: l, K, hp => by
    obtain ⟨u, au, h1, h2, h3, h4⟩ := (load_ok (nx := st.next) h.lay (fun id o hid => (h.young id o hid).2) (h.env p).1 hp).one
    obtain ⟨vs, avs, h5, h6, h7, h8⟩ := resL_ok h l _ h1
    refine ⟨u :: vs, au :: avs, h5, by simp [h6], fun j v av h9 h10 => ?_, ?_⟩
    · cases j with
      | zero =>
        cases h9
        cases h10
        exact h2
      | succ j => exact h7 j v av (by simpa using h9) (by simpa using h10)
    · have := asAddr_of_load (h4 w (Below.refl _ _))
      simp only [List.mapM_cons, resVar]
      rw [Sem.run_bind, this]
      simp only [Sem.run_bind, Sem.run_pure, Result.andThen_ok, h8]
theorem res_ok {fn : Func} {K : AV → Prop} (h : Conc cx a w st L) (hp : aResL P st fn.results.toList fun avs => K (aOne avs)) : ∃ v av, K av ∧ RVx cx w st.tab L v av ∧ (results fn a.tmps).run P w = .ok v w := by
  obtain ⟨vs, avs, h1, h2, h3, h4⟩ := resL_ok h _ _ hp
  have hm : (results fn a.tmps).run P w = .ok (if h : vs.toArray.size = 1 then vs.toArray[0] else .tuple vs.toArray) w := by
    rw [results_eq, Sem.run_bind, Array.mapM_eq_mapM_toList]
    simp only [bind_pure_comp, Sem.run_map, h4]
    rfl
  refine ⟨_, aOne avs, h1, ?_, hm⟩
  clear hm h4 h1
  match vs, avs, h2, h3 with
  | [v], [av], _, h3 => exact h3 0 v av rfl rfl
  | [], [], _, h3 => exact .tup _ _ rfl (by simp)
  | v :: v' :: vs, av :: av' :: avs, h2, h3 =>
    simp only [aOne, List.size_toArray, List.length_cons]
    rw [dif_neg (by omega)]
    exact .tup _ _ (by simpa using h2) fun j x av h4 h5 => h3 j x av (by simpa using h4) h5
end
/-! ### the end of loops over a function -/
/-- but for what is no cells all is as it was -/
structure KeepM (base : Nat) (w w' : World) : Prop where
  below : Below base w w'
  size : w'.heap.size = w.heap.size
  cell : ∀ p, w'.cell? p = w.cell? p
  cells : ∀ (k : Nat) cs t x, w.heap[k]? = some (Obj.cells cs t x) → w'.heap[k]? = some (Obj.cells cs t x)
  maps : ∀ (k : Nat) es c, w.heap[k]? = some (Obj.map es c) → w'.heap[k]? = some (Obj.map es c)
theorem KeepM.refl (base : Nat) (w : World) : KeepM base w w := ⟨Below.refl _ _, rfl, fun _ => rfl, fun _ _ _ _ h => h, fun _ _ _ h => h⟩
theorem KeepM.trans {base : Nat} {w w' w'' : World} (h : KeepM base w w') (k : KeepM base w' w'') : KeepM base w w'' :=
  ⟨h.below.trans k.below, k.size.trans h.size, fun p => (k.cell p).trans (h.cell p), fun b cs t x hb => k.cells b cs t x (h.cells b cs t x hb), fun b es c hb => k.maps b es c (h.maps b es c hb)⟩
theorem KeepM.put {base k : Nat} {w : World} {o : Option (List Deferred)} (hk : base ≤ k) (h : w.heap[k]? = some (.deferred o)) (o' : Option (List Deferred)) : KeepM base w (w.putObj k (.deferred o')) := by
  have hother : ∀ j, j ≠ k → (w.putObj k (.deferred o')).heap[j]? = w.heap[j]? := fun j hj => World.putObj_heap_other hj
  have hlt : k < w.heap.size := (Array.getElem?_eq_some_iff.1 h).1
  refine ⟨⟨rfl, rfl, rfl, by simp, fun j hj => hother j (by omega)⟩, by simp, fun p => ?_, fun j cs t x hj => ?_, fun j es c hj => ?_⟩
  · by_cases e : p.block = k
    · have h1 : (w.putObj k (.deferred o')).heap[p.block]? = some (.deferred o') := by rw [e]; exact World.putObj_heap_same hlt
      have h2 : w.heap[p.block]? = some (.deferred o) := by rw [e]; exact h
      unfold World.cell?
      rw [h1, h2]
    · exact World.cell?_of_block (hother p.block e)
  · by_cases e : j = k
    · rw [e, h] at hj
      cases hj
    · rw [hother j e]
      exact hj
  · by_cases e : j = k
    · rw [e, h] at hj
      cases hj
    · rw [hother j e]
      exact hj
section
variable {cx : Cx} {a : Act} {w w' : World} {st : ASt} {L : Nat → Value}
theorem conc_keep (h : Conc cx a w st L) (hk : KeepM cx.w0.heap.size w w') {ds : List Deferred} (hm : Marks cx.w0.heap.size w' (Sx cx w' st.tab L) ds) : Conc cx { a with defers := ds } w' st L := by
  have hS : ∀ b, Sx cx w st.tab L b → Sx cx w' st.tab L b := fun b hb => ⟨by rw [hk.size]; exact hb.1, hb.2.1, hb.2.2⟩
  have hrv : ∀ {x av nx}, RVx cx w st.tab L x av → av.lt nx → RVx cx w' st.tab L x av := fun hr hl => hr.mono hl (fun p _ => hk.cell p) hS (fun _ _ _ h => h)
  refine ⟨⟨h.lay.below.trans (belowX hk.below), fun id o hid => ?_, h.lay.sep, fun b hb => ⟨by rw [hk.size]; exact (h.lay.ex b hb).1, (h.lay.ex b hb).2⟩⟩, h.size, hm, h.young, fun t => ⟨hrv (h.env t).1 (h.env t).2, (h.env t).2⟩⟩
  have ho := h.lay.objs id o hid
  have hy := (h.young id o hid).2
  cases o with
  | box t cells =>
    obtain ⟨g, cs, h1, h2, h3, h4, h5⟩ := ho
    exact ⟨g, cs, h1, h2, hk.cells _ _ _ _ h3, h4, fun j x av h6 h7 => ⟨hrv (h5 j x av h6 h7).1 (ltL_iff.1 hy _ (List.mem_of_getElem? h7)), (h5 j x av h6 h7).2⟩⟩
  | row e sz rows =>
    obtain ⟨h1, xs, hown, h2, h3⟩ := ho
    refine ⟨h1, xs, ⟨hown.1, ?_⟩, h2, fun i j row av ha hb => ?_⟩
    · rcases hown.2 with hn | ⟨g, cap, cur, h4, hb, hh, rest⟩
      · exact .inl hn
      · exact .inr ⟨g, cap, cur, h4, hb, hk.cells _ _ _ _ hh, rest⟩
    · obtain ⟨x, hx, hr⟩ := h3 i j row av ha hb
      exact ⟨x, hx, hr.mono (fun p _ => hk.cell p) hS⟩
  | map ents =>
    obtain ⟨b, es, ck, h1, h2, h3, h4⟩ := ho
    exact ⟨b, es, ck, h1, h2, hk.maps _ _ _ h3, h4⟩
  | ghost vs env => exact ⟨ho.1, fun t ht => hrv (ho.2 t ht) (envLt_aget hy t)⟩
end
theorem conc_keepM {cx : Cx} {a : Act} {w w' : World} {st : ASt} {L : Nat → Value} (h : Conc cx a w st L) (hk : KeepM cx.w0.heap.size w w') : Conc cx { a with defers := [] } w' st L := conc_keep h hk (Marks.nil _ _ _)
theorem leaves_marks {P : Program} {fn : Func} {tmps : Array Value} {R : Ending → World → Prop} {base : Nat} {S : Nat → Prop} : ∀ (ds : List Deferred) (w : World), Marks base w S ds → (∀ w', KeepM base w w' → LeavesIn Fence.wide 0 P fn tmps R [] .returning w') → LeavesInM Fence.wide 0 P fn tmps R ds .returning w
  | [], w, _, h => h w (KeepM.refl _ _)
  | d :: ds, w, hm, h => by
    obtain ⟨k, rfl, h1, h2, h3⟩ := hm.2 d (List.mem_cons_self ..)
    have hk := KeepM.put h1 h2 none
    refine ⟨by simp, .inl ⟨k, _, rfl, run_takeDeferred h2, leaves_marks (S := S) ds _ ⟨(List.nodup_cons.1 hm.1).2, fun d' hd' => ?_⟩ fun w' hw' => h w' (hk.trans hw')⟩⟩
    obtain ⟨k', rfl, h4, h5, h6⟩ := hm.2 d' (List.mem_cons_of_mem _ hd')
    refine ⟨k', rfl, h4, ?_, h6⟩
    have hne : k' ≠ k := fun e => (List.nodup_cons.1 hm.1).1 (by rw [← e]; exact hd')
    rw [World.putObj_heap_other hne]
    exact h5
/-- A FUNCTION's CONTRACT OUT OF ITS CODE. -/
theorem arel_of_wp {P : Program} {f : FuncId} {fn : Func} {c : Code} (hf : P.funcs[f]? = some fn) (hb : fn.body = some c) (hname : (fn.name == "runtime.NumGoroutine") = false) {args : List AV} {Post : Res → Prop} {n : Nat} (hnt : fn.ntmps = n) {rs : List ResultVar} (hrs : fn.results = rs.toArray) (hn : Nat.ble args.length n = true)
    (h : ∀ (cx : Cx) (a : Act) (w : World) (L : Nat → Value), Conc cx a w ⟨n, envOf 0 args, [], 0⟩ L → c.wp P (AfterC cx (aRetR P rs Post)) a w) : ARel P f args Post := by
  have hn := Nat.le_of_ble_eq_true hn
  subst hnt
  have hrs : fn.results.toList = rs := by rw [hrs]
  refine ⟨fun vs w => ?_, fun S w vs hS hvs hv => ?_⟩
  · have : ¬ fn.name = "runtime.NumGoroutine" := by simpa using hname
    simp [callFunc, Sem.run_bind, hf, this, hb]
  · let cx : Cx := (Cx.mk0 S w hS)
    refine (callsIn_wide (n := 0)).1 (callsIn_of_wp_marks hf hb trivial (wpIn_wide.2 ?_))
    have hL : Lay cx w [] (fun _ => undef) := ⟨belowX (Below.refl _ _), fun id o h => (by cases h), fun id id' o o' g h => (by cases h), fun b hb => hb.elim⟩
    have hC : Conc cx { tmps := vs ++ Array.replicate (fn.ntmps - vs.size) undef, defers := [] } w ⟨fn.ntmps, envOf 0 args, [], 0⟩ (fun _ => undef) := by
      refine ⟨hL, ?_, Marks.nil _ _ _, fun id o h => (by cases h), fun t => ?_⟩
      · simp
        omega
      have e : (⟨fn.ntmps, envOf 0 args, [], 0⟩ : ASt).get t = args.getD t .any := by
        show (if t < fn.ntmps then aget (envOf 0 args) t else .any) = _
        rw [aget_envOf]
        split
        · simp
        · simp [List.getD, List.getElem?_eq_none (show args.length ≤ t by omega)]
      rw [e]
      by_cases ht : t < args.length
      · have ht' : t < vs.size := by omega
        have e2 : (vs ++ Array.replicate (fn.ntmps - vs.size) undef).getD t undef = vs[t] := by
          rw [Array.getD_eq_getD_getElem?, Array.getElem?_append_left ht', Array.getElem?_eq_getElem ht']
          rfl
        have e3 : args.getD t .any = args[t] := by simp [List.getD, ht]
        rw [e2, e3]
        have := hv t _ _ (Array.getElem?_eq_getElem ht') (List.getElem?_eq_getElem ht)
        exact ⟨.tree (this.mono (fun _ _ => rfl) fun b hb => ⟨hS b hb, ⟨.inl hb, fun h => h⟩, fun id o h => by cases h⟩), this.lt 0⟩
      · have e3 : args.getD t .any = .any := by simp [List.getD, List.getElem?_eq_none (Nat.le_of_not_lt ht)]
        rw [e3]
        exact ⟨.tree (.any _), trivial⟩
    refine Code.wp_mono (fun e a w' ⟨st, L, h1, h2⟩ => ?_) (h cx _ w _ hC)
    rw [← hrs] at h1
    have key : (aResL P st fn.results.toList fun avs => ∃ R, Post R ∧ R.Ok ∧ aGives R st (aOne avs)) → LeavesInM Fence.wide 0 P fn a.tmps (fun e w' => ∃ v' L R, Post R ∧ R.Ok ∧ e = .returned v' ∧ Lay cx w' R.tab L ∧ RVx cx w' R.tab L v' R.r) a.defers .returning w' := fun h1 => by
      refine leaves_marks _ _ h2.defers fun w2 hk2 => ?_
      have h2 := conc_keepM h2 hk2
      clear hk2
      generalize w2 = w' at h2
      obtain ⟨v, av, ⟨R, hPost, hok, ren, hnd, hr, ht⟩, h4, h5⟩ := res_ok (K := fun av => ∃ R, Post R ∧ R.Ok ∧ aGives R st av) h2 h1
      refine ⟨v, h5, v, fun k => L (ren.getD k 0), R, hPost, hok, rfl, ?_⟩
      subst hr
      have hget := fun k o => tabs_get (st := st) (T := R.tab) (k := k) (o := o) ht
      have hsub : ∀ b, Sx cx w' st.tab L b → Sx cx w' R.tab (fun k => L (ren.getD k 0)) b := fun b hb => ⟨hb.1, hb.2.1, fun k o hk => hb.2.2 _ o (hget k o hk).2.2⟩
      refine ⟨⟨h2.lay.below, fun k o hk => ?_, fun k k' o o' g h6 h7 h8 h9 => ?_, fun b hb => hb.elim⟩, rv_ren hsub (fun k p hk => ?_) _ _ h4⟩
      · obtain ⟨h6, ⟨e, sz, rows, rfl⟩, h7⟩ := hget k o hk
        obtain ⟨h8, xs, h9, h10, h11⟩ := h2.lay.objs _ _ h7
        refine ⟨h8, xs, h9, h10, fun i j row av h12 h13 => ?_⟩
        obtain ⟨x, hx, hrt⟩ := h11 i j row av h12 h13
        exact ⟨x, hx, hrt.mono (fun _ _ => rfl) hsub⟩
      · obtain ⟨ha, _, hb⟩ := hget k o h6
        obtain ⟨ha', _, hb'⟩ := hget k' o' h7
        have := h2.lay.sep _ _ o o' g hb hb' h8 h9
        simp only [List.getD, List.getElem?_eq_getElem ha, List.getElem?_eq_getElem ha', Option.getD_some] at this
        have hp := List.pairwise_iff_getElem.1 hnd
        rcases Nat.lt_trichotomy k k' with hlt | he | hlt
        · exact absurd this (hp k k' ha ha' hlt)
        · exact he
        · exact absurd this.symm (hp k' k ha' ha hlt)
      · unfold Kx at *
        cases ho : R.tab.get k with
        | none => simp [ho] at hk
        | some o =>
          rw [(hget k o ho).2.2]
          simpa [ho] using hk
    cases e with
    | normal => exact key h1
    | ret => exact key h1
    | _ => exact h1.elim
theorem retL_mono {P : Program} {st : ASt} : ∀ {l : List ResultVar} {K K' : List AV → Prop}, (∀ avs, K avs → K' avs) → aResL P st l K → aResL P st l K'
  | [], K, K', h, hp => h _ hp
  | .tmp t :: l, K, K', h, hp => retL_mono (l := l) (fun avs h2 => h _ h2) hp
  | .cell p ty :: l, K, K', h, hp => by
    have step : ∀ av, (aResL P st l fun avs => K (av :: avs)) → aResL P st l fun avs => K' (av :: avs) := fun av => retL_mono (l := l) (fun avs h2 => h _ h2)
    have take : ∀ cs, aTake P ty cs (fun av => aResL P st l fun avs => K (av :: avs)) → aTake P ty cs (fun av => aResL P st l fun avs => K' (av :: avs)) := fun cs ⟨h1, h2, h3⟩ => ⟨h1, h2, by
      split at h3
      · rw [if_pos (by assumption)]; exact step _ h3
      · rw [if_neg (by assumption)]; exact step _ h3⟩
    unfold aResL aLoad at hp ⊢
    split at hp
    · exact take _ hp
    · split at hp
      · rename_i h0
        first | simp only [h0] | skip
        exact ⟨hp.1, take _ hp.2⟩
      · rename_i h0
        first | simp only [h0] | skip
        exact ⟨hp.1, take _ hp.2⟩
      · exact hp.elim
    · exact hp.elim
theorem aRet_R {P : Program} {rs : List ResultVar} {R : Res} (hok : R.Ok) (e : Exit) (st : ASt) (h : aRet P rs R e st) : aRetR P rs (fun R' => R' = R) e st := by
  cases e with
  | normal => exact retL_mono (fun avs h => ⟨R, rfl, hok, h⟩) h
  | ret => exact retL_mono (fun avs h => ⟨R, rfl, hok, h⟩) h
  | _ => exact h.elim
theorem adet_of_wp {P : Program} {f : FuncId} {fn : Func} {c : Code} (hf : P.funcs[f]? = some fn) (hb : fn.body = some c) (hname : (fn.name == "runtime.NumGoroutine") = false) {args : List AV} {R : Res} {n : Nat} (hnt : fn.ntmps = n) {rs : List ResultVar} (hrs : fn.results = rs.toArray) (hn : Nat.ble args.length n = true)
    (hok : R.Ok) (h : ∀ (cx : Cx) (a : Act) (w : World) (L : Nat → Value), Conc cx a w ⟨n, envOf 0 args, [], 0⟩ L → c.wp P (AfterC cx (aRet P rs R)) a w) : ADet P f args R :=
  arel_of_wp hf hb hname hnt hrs hn fun cx a w L hc => Code.wp_mono (fun e a w ⟨st, L, h1, h2⟩ => ⟨st, L, aRet_R hok e st h1, h2⟩) (h cx a w L hc)
theorem arel_of_code {P : Program} (hm : P.follows .mixedOrders = true) {f : FuncId} {fn : Func} {c : Code} (hf : P.funcs[f]? = some fn) (hb : fn.body = some c) (hname : (fn.name == "runtime.NumGoroutine") = false) {args : List AV} {Post : Res → Prop} {n : Nat} (hnt : fn.ntmps = n) {rs : List ResultVar} (hrs : fn.results = rs.toArray) (hn : Nat.ble args.length n = true)
    (h : aCode P c (aRetR P rs Post) ⟨n, envOf 0 args, [], 0⟩) : ARel P f args Post :=
  arel_of_wp hf hb hname hnt hrs hn fun cx a w L hc => code_ok hm c _ a w _ L hc h
theorem adet_of_code {P : Program} (hm : P.follows .mixedOrders = true) {f : FuncId} {fn : Func} {c : Code} (hf : P.funcs[f]? = some fn) (hb : fn.body = some c) (hname : (fn.name == "runtime.NumGoroutine") = false) {args : List AV} {R : Res} {n : Nat} (hnt : fn.ntmps = n) {rs : List ResultVar} (hrs : fn.results = rs.toArray) (hn : Nat.ble args.length n = true)
    (hok : R.Ok) (h : aCode P c (aRet P rs R) ⟨n, envOf 0 args, [], 0⟩) : ADet P f args R :=
  adet_of_wp hf hb hname hnt hrs hn hok fun cx a w L hc => code_ok hm c _ a w _ L hc h
end
section
open Go.RowKit

def envIn (st : ASt) : List (Nat × AV) → Prop
  | [] => True
  | (t, av) :: l => st.get t = av ∧ envIn st l
def tabIn (st : ASt) : ATab → Prop
  | [] => True
  | (id, o) :: l => st.tab.get id = o ∧ tabIn st l
def tabLt (nx : Nat) : ATab → Prop
  | [] => True
  | (id, some o) :: l => (id < nx ∧ o.lt nx) ∧ tabLt nx l
  | (_, none) :: l => tabLt nx l
theorem envIn_get {st : ASt} {nx : Nat} : ∀ {l : List (Nat × AV)} (t : Nat), envIn st l → envLt nx l → (aget l t = st.get t ∨ aget l t = .any) ∧ (aget l t).lt nx
  | [], t, _, _ => ⟨.inr rfl, trivial⟩
  | (k, av) :: l, t, h, hl => by
    unfold aget
    split
    · rename_i e
      rw [e]
      exact ⟨.inl h.1.symm, hl.1⟩
    · exact envIn_get t h.2 hl.2
theorem tabIn_get {st : ASt} {nx : Nat} : ∀ {l : ATab} {id : Nat} {o : AObj}, tabIn st l → tabLt nx l → l.get id = some o → st.tab.get id = some o ∧ id < nx ∧ o.lt nx
  | [], id, o, _, _, h => by cases h
  | (k, oo) :: l, id, o, h, hl, hg => by
    rw [ATab.get_cons] at hg
    split at hg
    · rename_i e
      subst e
      subst hg
      exact ⟨h.1, hl.1.1, hl.1.2⟩
    · cases oo with
      | none => exact tabIn_get h.2 hl hg
      | some => exact tabIn_get h.2 hl.2 hg
/-- what is needed no more is let go -/
theorem weak_cut {st : ASt} {n nx : Nat} {env : List (Nat × AV)} {tab : ATab} (hn : st.n = n) (he : envIn st env) (ht : tabIn st tab) (hl : envLt nx env) (hl2 : tabLt nx tab) : Weak st ⟨n, env, tab, nx⟩ := by
  intro cx a w L h
  have hsub : ∀ id o, tab.get id = some o → st.tab.get id = some o := fun id o hid => (tabIn_get ht hl2 hid).1
  have hS : ∀ b, Sx cx w st.tab L b → Sx cx w tab L b := fun b hb => ⟨hb.1, hb.2.1, fun id o hid => hb.2.2 id o (hsub id o hid)⟩
  have hK : ∀ id p, Kx tab L id = some p → Kx st.tab L id = some p := fun id p hk => by
    unfold Kx at *
    cases ho : tab.get id with
    | none => simp [ho] at hk
    | some o => rw [hsub id o ho]; simpa [ho] using hk
  have hrv : ∀ x av, RVx cx w st.tab L x av → RVx cx w tab L x av := fun x av hr => by
    have : ∀ nx', av.lt nx' → RVx cx w tab L x av := fun nx' hlt => hr.mono hlt (fun _ _ => rfl) hS (fun id p _ hk => hK id p hk)
    induction hr with
    | tree h => exact .tree (h.mono (fun _ _ => rfl) hS)
    | osl x id h => exact .osl x id fun sz v e => h sz v (hK id _ e)
    | op x id i j h => exact .op x id i j fun sz v e => h sz v (hK id _ e)
    | agg xs cs hn hr ih => exact .agg xs cs hn fun j x av h1 h2 => ih j x av h1 h2 fun nx' hlt => (hr j x av h1 h2).mono hlt (fun _ _ => rfl) hS (fun id p _ hk => hK id p hk)
    | tup xs cs hn hr ih => exact .tup xs cs hn fun j x av h1 h2 => ih j x av h1 h2 fun nx' hlt => (hr j x av h1 h2).mono hlt (fun _ _ => rfl) hS (fun id p _ hk => hK id p hk)
    | fn fi xs cs hn hr ih => exact .fn fi xs cs hn fun j x av h1 h2 => ih j x av h1 h2 fun nx' hlt => (hr j x av h1 h2).mono hlt (fun _ _ => rfl) hS (fun id p _ hk => hK id p hk)
    | bfn fi xs cs hn hr ih => exact .bfn fi xs cs hn fun j x av h1 h2 => ih j x av h1 h2 fun nx' hlt => (hr j x av h1 h2).mono hlt (fun _ _ => rfl) hS (fun id p _ hk => hK id p hk)
  refine ⟨L, ⟨⟨h.lay.below, fun id o hid => ?_, fun id id' o o' g h1 h2 => h.lay.sep id id' o o' g (hsub id o h1) (hsub id' o' h2), fun b hb => ⟨(h.lay.ex b hb).1, fun id o hid => (h.lay.ex b hb).2 id o (hsub id o hid)⟩⟩, h.size.trans hn, h.defers.mono (fun _ _ => rfl) hS, fun id o hid => (tabIn_get ht hl2 hid).2, fun t => ?_⟩, hS⟩
  · have ho := h.lay.objs id o (hsub id o hid)
    have hext : Ext cx w st.tab L 0 w tab L := ⟨fun _ _ => rfl, hS, fun id p hlt => by omega⟩
    cases o with
    | box t cells =>
      obtain ⟨g, cs, h1, h2, h3, h4, h5⟩ := ho
      exact ⟨g, cs, h1, h2, h3, h4, fun j x av h6 h7 => ⟨hrv x av (h5 j x av h6 h7).1, (h5 j x av h6 h7).2⟩⟩
    | row e sz rows =>
      obtain ⟨h1, xs, h2, h3, h4⟩ := ho
      refine ⟨h1, xs, h2, h3, fun i j row av h5 h6 => ?_⟩
      obtain ⟨x, hx, hr⟩ := h4 i j row av h5 h6
      exact ⟨x, hx, hext.rt hr⟩
    | map ents => exact ho
    | ghost vs env => exact ⟨ho.1, fun t ht => hrv _ _ (ho.2 t ht)⟩
  · obtain ⟨h1, h2⟩ := envIn_get t he hl
    show RVx cx w tab L _ (if t < n then aget env t else .any) ∧ (if t < n then aget env t else .any).lt nx
    split
    case isFalse => exact ⟨.tree (.any _), trivial⟩
    refine ⟨?_, h2⟩
    rcases h1 with h1 | h1
    · rw [h1]
      exact hrv _ _ (h.env t).1
    · rw [h1]
      exact .tree (.any _)
theorem Weak.trans {st st' st'' : ASt} (h : Weak st st') (h2 : Weak st' st'') : Weak st st'' := fun cx a w L hc => (h cx a w L hc).elim fun L' hc' => (h2 cx a w L' hc'.1).elim fun L2 h3 => ⟨L2, h3.1, fun b hb => h3.2 b (hc'.2 b hb)⟩
def renEnv (l : List Nat) : List (Nat × AV) → List (Nat × AV)
  | [] => []
  | (t, av) :: r => (t, av.ren l) :: renEnv l r
theorem renEnv_get (l : List Nat) : ∀ (r : List (Nat × AV)) (t : Nat), aget (renEnv l r) t = (aget r t).ren l
  | [], t => rfl
  | (q, av) :: r, t => by
    unfold renEnv aget
    split
    · rfl
    · exact renEnv_get l r t
def AObj.ren (l : List Nat) : AObj → AObj
  | .box t cells => .box t (AV.renL l cells)
  | .row e sz rows => .row e sz rows
  | .map ents => .map ents
  | .ghost vs env => .ghost vs (renEnv l env)
theorem AObj.ren_sz (l : List Nat) (o : AObj) : (o.ren l).sz = o.sz := by cases o <;> simp [AObj.ren, AObj.sz, renL_map]
def envInR (st : ASt) (ids : List Nat) : List (Nat × AV) → Prop
  | [] => True
  | (t, av) :: l => st.get t = av.ren ids ∧ envInR st ids l
def tabInR (st : ASt) (ids : List Nat) : ATab → Prop
  | [] => True
  | (id, some o) :: l => (id < ids.length ∧ st.tab.get (ids.getD id 0) = some (o.ren ids)) ∧ tabInR st ids l
  | (_, none) :: l => tabInR st ids l
theorem envInR_get {st : ASt} {ids : List Nat} {nx : Nat} : ∀ {l : List (Nat × AV)} (t : Nat), envInR st ids l → envLt nx l → ((aget l t).ren ids = st.get t ∨ aget l t = .any) ∧ (aget l t).lt nx
  | [], t, _, _ => ⟨.inr rfl, trivial⟩
  | (k, av) :: l, t, h, hl => by
    unfold aget
    split
    · rename_i e
      rw [e]
      exact ⟨.inl h.1.symm, hl.1⟩
    · exact envInR_get t h.2 hl.2
theorem tabInR_get {st : ASt} {ids : List Nat} {nx : Nat} : ∀ {l : ATab} {id : Nat} {o : AObj}, tabInR st ids l → tabLt nx l → l.get id = some o → (id < ids.length ∧ st.tab.get (ids.getD id 0) = some (o.ren ids)) ∧ id < nx ∧ o.lt nx
  | [], id, o, _, _, h => by cases h
  | (k, some oo) :: l, id, o, h, hl, hg => by
    rw [ATab.get_cons] at hg
    split at hg
    · rename_i e
      subst e
      cases hg
      exact ⟨h.1, hl.1.1, hl.1.2⟩
    · exact tabInR_get h.2 hl.2 hg
  | (k, none) :: l, id, o, h, hl, hg => by
    rw [ATab.get_cons] at hg
    split at hg
    · cases hg
    · exact tabInR_get (l := l) h hl hg
/-- what is needed no more is let go, and the objects are numbered anew -/
theorem weak_ren {st : ASt} {n nx : Nat} {env : List (Nat × AV)} {tab : ATab} (ids : List Nat) (hnd : ids.Nodup) (hn : st.n = n) (he : envInR st ids env) (ht : tabInR st ids tab) (hl : envLt nx env) (hl2 : tabLt nx tab) : Weak st ⟨n, env, tab, nx⟩ := by
  intro cx a w L h
  have hget : ∀ k o, tab.get k = some o → k < ids.length ∧ st.tab.get (ids.getD k 0) = some (o.ren ids) := fun k o hk => (tabInR_get ht hl2 hk).1
  have hS : ∀ b, Sx cx w st.tab L b → Sx cx w tab (fun k => L (ids.getD k 0)) b := fun b hb => ⟨hb.1, hb.2.1, fun k o hk => hb.2.2 _ _ (hget k o hk).2⟩
  have hK : ∀ k p, Kx tab (fun k => L (ids.getD k 0)) k = some p → Kx st.tab L (ids.getD k 0) = some p := fun k p hk => by
    unfold Kx at *
    cases ho : tab.get k with
    | none => simp [ho] at hk
    | some o =>
      rw [(hget k o ho).2]
      simpa [ho, AObj.ren_sz] using hk
  refine ⟨fun k => L (ids.getD k 0), ⟨⟨h.lay.below, fun k o hk => ?_, fun k k' o o' g h6 h7 h8 h9 => ?_, fun b hb => ⟨(h.lay.ex b hb).1, fun k o hk => (h.lay.ex b hb).2 _ _ (hget k o hk).2⟩⟩, h.size.trans hn, h.defers.mono (fun _ _ => rfl) hS, fun id o hid => (tabInR_get ht hl2 hid).2, fun t => ?_⟩, hS⟩
  · obtain ⟨_, h7⟩ := hget k o hk
    have ho := h.lay.objs _ _ h7
    cases o with
    | box t cells =>
      obtain ⟨g, cs, h1, h2, h3, h4, h5⟩ := ho
      refine ⟨g, cs, h1, h2, h3, by simpa [renL_map] using h4, fun j x av h6 h8 => ?_⟩
      have h9 := h5 j x (av.ren ids) h6 (by rw [renL_map, List.getElem?_map, h8]; rfl)
      exact ⟨rv_ren hS hK av x h9.1, h9.2⟩
    | row e sz rows =>
      obtain ⟨h1, xs, h2, h3, h4⟩ := ho
      refine ⟨h1, xs, h2, h3, fun i j row av h5 h6 => ?_⟩
      obtain ⟨x, hx, hr⟩ := h4 i j row av h5 h6
      exact ⟨x, hx, hr.mono (fun _ _ => rfl) hS⟩
    | map ents => exact ho
    | ghost vs env =>
      refine ⟨ho.1, fun t ht => rv_ren hS hK _ _ ?_⟩
      have h9 := ho.2 t ht
      rwa [renEnv_get] at h9
  · obtain ⟨ha, hb⟩ := hget k o h6
    obtain ⟨ha', hb'⟩ := hget k' o' h7
    have := h.lay.sep _ _ _ _ g hb hb' h8 h9
    simp only [List.getD, List.getElem?_eq_getElem ha, List.getElem?_eq_getElem ha', Option.getD_some] at this
    have hp := List.pairwise_iff_getElem.1 hnd
    rcases Nat.lt_trichotomy k k' with hlt | he | hlt
    · exact absurd this (hp k k' ha ha' hlt)
    · exact he
    · exact absurd this.symm (hp k' k ha' ha hlt)
  · obtain ⟨h1, h2⟩ := envInR_get t he hl
    show RVx cx w tab _ _ (if t < n then aget env t else .any) ∧ (if t < n then aget env t else .any).lt nx
    split
    case isFalse => exact ⟨.tree (.any _), trivial⟩
    refine ⟨?_, h2⟩
    rcases h1 with h1 | h1
    · refine rv_ren hS hK _ _ ?_
      rw [h1]
      exact (h.env t).1
    · rw [h1]
      exact .tree (.any _)
/-- no slice, seen as a slice of the call's own that is empty -/
theorem weak_nil {st : ASt} (t e sz : Nat) (hg : st.get t = .c (.slice none 0 0)) : Weak st ⟨st.n, (t, .osl st.next) :: st.env, (st.next, some (.row e sz [])) :: st.tab, st.next + 1⟩ := by
  intro cx a w L h
  have hv := (h.env t).1
  rw [hg] at hv
  have hv := hv.c_inv
  have hput : a.put (some t) (.slice none 0 0) = a := by
    unfold Act.put
    have : a.tmps.setIfInBounds t (.slice none 0 0) = a.tmps := by
      apply Array.ext (by simp)
      intro i h1 h2
      rw [Array.getElem_setIfInBounds]
      split
      · rename_i e
        subst e
        rw [← hv]
        simp [Array.getD, h2]
      · rfl
    simp only [this]
  refine ⟨updL L st.next (.slice none 0 0), ?_, fun b hb => ⟨hb.1, hb.2.1, fun k o hk hg => ?_⟩⟩
  rotate_left
  · have hk : ATab.get ((st.next, some (.row e sz [])) :: st.tab) k = some o := hk
    rw [ATab.get_cons] at hk
    unfold updL at hg
    split at hk
    · rename_i e1
      rw [if_pos e1] at hg
      simp [vblk] at hg
    · rename_i e1
      rw [if_neg e1] at hg
      exact hb.2.2 k o hk hg
  have := conc_new (ob := .row e sz []) (v := .slice none 0 0) (x := .slice none 0 0) (av := .osl st.next) h (Below.refl _ _) (fun g hg => by simp [vblk] at hg) (fun hext => ⟨by simp, [], ownsR_nil .., by simp, by simp⟩) trivial (fun hext => ?_) (Nat.lt_succ_self _) (some t)
  · rw [hput] at this
    exact this
  · refine .osl _ _ fun sz u hk => ?_
    simp [Kx, ATab.get_cons, updL] at hk
    exact hk.2
/-- a loop's slot as a count -/
theorem weak_cut1 {st : ASt} {n nx : Nat} {env : List (Nat × AV)} {tab : ATab} (h : st.n = n ∧ (envIn st env ∧ tabIn st tab) ∧ envLt nx env ∧ tabLt nx tab) : Weak st ⟨n, env, tab, nx⟩ := weak_cut h.1 h.2.1.1 h.2.1.2 h.2.2.1 h.2.2.2
theorem weak_ren1 {st : ASt} {n nx : Nat} {env : List (Nat × AV)} {tab : ATab} (ids : List Nat) (h : ids.Nodup ∧ st.n = n ∧ (envInR st ids env ∧ tabInR st ids tab) ∧ envLt nx env ∧ tabLt nx tab) : Weak st ⟨n, env, tab, nx⟩ := weak_ren ids h.1 h.2.1 h.2.2.1.1 h.2.2.1.2 h.2.2.2.1 h.2.2.2.2
def slotN (st : ASt) (t : Nat) : Nat := match st.get t with | .c (.int _ n) => n.toNat | _ => 0

theorem wrap_in {x : Int} (h1 : -9223372036854775808 ≤ x) (h2 : x ≤ 9223372036854775807) : IntKind.i64.wrap x = x := by
  rw [IntKind.wrap_i64]; omega
theorem wrapK {k : Nat} (h : k ≤ 4611686018427387904) : IntKind.i64.wrap ((k : Int) + 1) = ((k + 1 : Nat) : Int) := by
  rw [wrap_in (by omega) (by omega)]; omega
/-- the answer of a function that gives back one value -/
def val (v : Value) : Res := ⟨.c v, [], 0⟩
theorem val_ok (v : Value) : (val v).Ok := ⟨fun id o h => (by cases h), trivial⟩
theorem gives_val {v : Value} {st : ASt} {av : AV} (h : av = .c v) : aGives (val v) st av := ⟨[], List.nodup_nil, by rw [h]; rfl, trivial⟩

theorem aGives_val {v : Value} {st : ASt} {av : AV} : aGives (val v) st av = (av = .c v) := propext ⟨fun ⟨ren, _, h, _⟩ => h.symm, gives_val⟩

/-! ### plain data as abstract values -/
abbrev eI (n : Int) : AV := .c (.int .i64 n)
abbrev eB (b : Bool) : AV := .c (.bool b)
abbrev eS (s : ByteArray) : AV := .c (.string s)
abbrev sI (l : List Int) : AV := .sl 1 (l.map fun n => [eI n])
theorem row_at {α : Type} {f : α → List AV} {l : List α} {k : Nat} (h : k < l.length) : (l.map f)[k]?.getD [] = f l[k] := by
  rw [List.getElem?_map, List.getElem?_eq_getElem h]; rfl
theorem callD {P : Program} {g : FuncId} {args : List AV} {v : Value} {K : Value → Prop} (h : ADet P g args (val v)) (hk : K v) : ∃ v, ADet P g args ⟨.c v, [], 0⟩ ∧ K v := ⟨v, h, hk⟩
theorem roundI {I : ASt → Prop} {μ : ASt → Nat} {n : Nat} {st st' : ASt} (hw : Weak st st') (hI : I st') (hm : μ st' < n) : aRound I μ n st := ⟨st', hw, hI, hm⟩
end
section
open Go.RowKit
theorem tyA_32 : tyAgg Tryz.prog 32 = true := by kernel_rfl
theorem tyS_32 : tySize Tryz.prog 32 = 10 := by kernel_rfl
theorem tyE_33 : tyElem Tryz.prog 33 = (46, 7) := by kernel_rfl
theorem tyK_33 : tyK Tryz.prog 33 = TyK.slice := by kernel_rfl
theorem tyK_3 : tyK Tryz.prog 3 = TyK.int := by kernel_rfl
theorem tyB_42 : tyParts Tryz.prog 42 = some ([(0, 1), (1, 1)], [Value.slice none 0 0, Value.slice none 0 0]) := by kernel_rfl
theorem tyB_46 : tyParts Tryz.prog 46 = some ([(0, 1), (1, 2), (3, 2), (5, 1), (6, 1)], [Value.int IntKind.i64 0, Value.int IntKind.i64 0, Value.int IntKind.i64 0, Value.int IntKind.i64 0, Value.int IntKind.i64 0, Value.int IntKind.i64 0, Value.int IntKind.i64 0]) := by kernel_rfl
theorem tyR_33 : tyRow Tryz.prog 33 = some (46, 7, 56) := by kernel_rfl
theorem tyR_39 : tyRow Tryz.prog 39 = some (95, 6, 112) := by kernel_rfl
theorem tyK_36 : tyK Tryz.prog 36 = TyK.int := by kernel_rfl
theorem tyE_47 : tyElem Tryz.prog 47 = (4, 1) := by kernel_rfl
theorem tyK_47 : tyK Tryz.prog 47 = TyK.slice := by kernel_rfl
theorem tyF_32_6 : fOff Tryz.prog 32 6 = some 6 := by kernel_rfl
theorem tyA_27 : tyAgg Tryz.prog 27 = false := by kernel_rfl
theorem tyS_27 : tySize Tryz.prog 27 = 1 := by kernel_rfl
theorem tyE_27 : tyElem Tryz.prog 27 = (52, 3) := by kernel_rfl
theorem tyK_27 : tyK Tryz.prog 27 = TyK.slice := by kernel_rfl
theorem tyF_32_7 : fOff Tryz.prog 32 7 = some 7 := by kernel_rfl
theorem tyA_28 : tyAgg Tryz.prog 28 = false := by kernel_rfl
theorem tyS_28 : tySize Tryz.prog 28 = 1 := by kernel_rfl
theorem tyE_28 : tyElem Tryz.prog 28 = (54, 5) := by kernel_rfl
theorem tyK_28 : tyK Tryz.prog 28 = TyK.slice := by kernel_rfl
theorem tyF_32_4 : fOff Tryz.prog 32 4 = some 4 := by kernel_rfl
theorem tyA_25 : tyAgg Tryz.prog 25 = false := by kernel_rfl
theorem tyS_25 : tySize Tryz.prog 25 = 1 := by kernel_rfl
theorem tyE_25 : tyElem Tryz.prog 25 = (215, 2) := by kernel_rfl
theorem tyK_25 : tyK Tryz.prog 25 = TyK.slice := by kernel_rfl
theorem tyF_32_5 : fOff Tryz.prog 32 5 = some 5 := by kernel_rfl
theorem tyA_26 : tyAgg Tryz.prog 26 = false := by kernel_rfl
theorem tyS_26 : tySize Tryz.prog 26 = 1 := by kernel_rfl
theorem tyE_26 : tyElem Tryz.prog 26 = (57, 5) := by kernel_rfl
theorem tyK_26 : tyK Tryz.prog 26 = TyK.slice := by kernel_rfl
theorem tyF_32_0 : fOff Tryz.prog 32 0 = some 0 := by kernel_rfl
theorem tyA_22 : tyAgg Tryz.prog 22 = false := by kernel_rfl
theorem tyS_22 : tySize Tryz.prog 22 = 1 := by kernel_rfl
theorem tyE_22 : tyElem Tryz.prog 22 = (9, 1) := by kernel_rfl
theorem tyK_22 : tyK Tryz.prog 22 = TyK.slice := by kernel_rfl
theorem tyF_32_2 : fOff Tryz.prog 32 2 = some 2 := by kernel_rfl
theorem tyF_32_3 : fOff Tryz.prog 32 3 = some 3 := by kernel_rfl
theorem tyA_24 : tyAgg Tryz.prog 24 = false := by kernel_rfl
theorem tyS_24 : tySize Tryz.prog 24 = 1 := by kernel_rfl
theorem tyE_24 : tyElem Tryz.prog 24 = (170, 2) := by kernel_rfl
theorem tyK_24 : tyK Tryz.prog 24 = TyK.slice := by kernel_rfl
theorem tyF_32_8 : fOff Tryz.prog 32 8 = some 8 := by kernel_rfl
theorem tyA_29 : tyAgg Tryz.prog 29 = false := by kernel_rfl
theorem tyS_29 : tySize Tryz.prog 29 = 1 := by kernel_rfl
theorem tyE_29 : tyElem Tryz.prog 29 = (174, 2) := by kernel_rfl
theorem tyK_29 : tyK Tryz.prog 29 = TyK.slice := by kernel_rfl
theorem tyF_32_9 : fOff Tryz.prog 32 9 = some 9 := by kernel_rfl
theorem tyA_30 : tyAgg Tryz.prog 30 = false := by kernel_rfl
theorem tyS_30 : tySize Tryz.prog 30 = 1 := by kernel_rfl
theorem tyE_30 : tyElem Tryz.prog 30 = (217, 2) := by kernel_rfl
theorem tyK_30 : tyK Tryz.prog 30 = TyK.slice := by kernel_rfl
theorem tyF_32_1 : fOff Tryz.prog 32 1 = some 1 := by kernel_rfl
theorem tyA_23 : tyAgg Tryz.prog 23 = false := by kernel_rfl
theorem tyS_23 : tySize Tryz.prog 23 = 1 := by kernel_rfl
theorem tyE_23 : tyElem Tryz.prog 23 = (2, 1) := by kernel_rfl
theorem tyK_23 : tyK Tryz.prog 23 = TyK.slice := by kernel_rfl
theorem tyF_52_2 : fOff Tryz.prog 52 2 = some 2 := by kernel_rfl
theorem tyA_33 : tyAgg Tryz.prog 33 = false := by kernel_rfl
theorem tyS_33 : tySize Tryz.prog 33 = 1 := by kernel_rfl
theorem tyF_54_3 : fOff Tryz.prog 54 3 = some 3 := by kernel_rfl
theorem tyF_57_3 : fOff Tryz.prog 57 3 = some 3 := by kernel_rfl
theorem tyA_55 : tyAgg Tryz.prog 55 = false := by kernel_rfl
theorem tyS_55 : tySize Tryz.prog 55 = 1 := by kernel_rfl
theorem tyE_55 : tyElem Tryz.prog 55 = (3, 1) := by kernel_rfl
theorem tyK_55 : tyK Tryz.prog 55 = TyK.slice := by kernel_rfl
theorem tyB_59 : tyParts Tryz.prog 59 = some ([(0, 1), (1, 1), (2, 1)], [Value.int IntKind.i64 0, Value.int IntKind.i64 0, Value.int IntKind.i64 0]) := by kernel_rfl
theorem tyR_60 : tyRow Tryz.prog 60 = some (59, 3, 24) := by kernel_rfl
theorem tyR_40 : tyRow Tryz.prog 40 = some (60, 1, 24) := by kernel_rfl
theorem tyZ_42 : tyZero Tryz.prog 42 = some (Value.agg #[Value.slice none 0 0, Value.slice none 0 0]) := by kernel_rfl
theorem tyS_42 : tySize Tryz.prog 42 = 2 := by kernel_rfl
theorem tyB_32 : tyParts Tryz.prog 32 = some ([(0, 1), (1, 1), (2, 1), (3, 1), (4, 1), (5, 1), (6, 1), (7, 1), (8, 1), (9, 1)], [Value.slice none 0 0, Value.slice none 0 0, Value.slice none 0 0, Value.slice none 0 0, Value.slice none 0 0, Value.slice none 0 0, Value.slice none 0 0, Value.slice none 0 0, Value.slice none 0 0, Value.slice none 0 0]) := by kernel_rfl
theorem tyA_42 : tyAgg Tryz.prog 42 = true := by kernel_rfl
theorem tyA_4 : tyAgg Tryz.prog 4 = false := by kernel_rfl
theorem tyS_4 : tySize Tryz.prog 4 = 1 := by kernel_rfl
theorem tyF_42_0 : fOff Tryz.prog 42 0 = some 0 := by kernel_rfl
theorem tyA_39 : tyAgg Tryz.prog 39 = false := by kernel_rfl
theorem tyS_39 : tySize Tryz.prog 39 = 1 := by kernel_rfl
theorem tyE_39 : tyElem Tryz.prog 39 = (95, 6) := by kernel_rfl
theorem tyK_39 : tyK Tryz.prog 39 = TyK.slice := by kernel_rfl
theorem tyF_42_1 : fOff Tryz.prog 42 1 = some 1 := by kernel_rfl
theorem tyA_40 : tyAgg Tryz.prog 40 = false := by kernel_rfl
theorem tyS_40 : tySize Tryz.prog 40 = 1 := by kernel_rfl
theorem tyE_40 : tyElem Tryz.prog 40 = (60, 1) := by kernel_rfl
theorem tyK_40 : tyK Tryz.prog 40 = TyK.slice := by kernel_rfl
theorem tyB_69 : tyParts Tryz.prog 69 = some ([(0, 1), (1, 1)], [Value.slice none 0 0, Value.slice none 0 0]) := by kernel_rfl
theorem tyE_61 : tyElem Tryz.prog 61 = (71, 10) := by kernel_rfl
theorem tyK_61 : tyK Tryz.prog 61 = TyK.slice := by kernel_rfl
theorem tyA_71 : tyAgg Tryz.prog 71 = true := by kernel_rfl
theorem tyS_71 : tySize Tryz.prog 71 = 10 := by kernel_rfl
theorem tyZ_71 : tyZero Tryz.prog 71 = some (Value.agg #[Value.int IntKind.i64 0, Value.int IntKind.i64 0, Value.int IntKind.i64 0, Value.int IntKind.i64 0, Value.int IntKind.i64 0, Value.int IntKind.i64 0, Value.int IntKind.i64 0, Value.int IntKind.i64 0, Value.int IntKind.i64 0, Value.int IntKind.i64 0]) := by kernel_rfl
theorem tyF_71_0 : fOff Tryz.prog 71 0 = some 0 := by kernel_rfl
theorem tyA_3 : tyAgg Tryz.prog 3 = false := by kernel_rfl
theorem tyS_3 : tySize Tryz.prog 3 = 1 := by kernel_rfl
theorem tyF_69_1 : fOff Tryz.prog 69 1 = some 1 := by kernel_rfl
theorem tyA_67 : tyAgg Tryz.prog 67 = false := by kernel_rfl
theorem tyS_67 : tySize Tryz.prog 67 = 1 := by kernel_rfl
theorem tyF_71_3 : fOff Tryz.prog 71 3 = some 3 := by kernel_rfl
theorem tyA_46 : tyAgg Tryz.prog 46 = true := by kernel_rfl
theorem tyS_46 : tySize Tryz.prog 46 = 7 := by kernel_rfl
theorem tyR_67 : tyRow Tryz.prog 67 = some (47, 1, 24) := by kernel_rfl
theorem tyE_67 : tyElem Tryz.prog 67 = (47, 1) := by kernel_rfl
theorem tyA_47 : tyAgg Tryz.prog 47 = false := by kernel_rfl
theorem tyS_47 : tySize Tryz.prog 47 = 1 := by kernel_rfl
theorem tyZ_46 : tyZero Tryz.prog 46 = some (Value.agg #[Value.int IntKind.i64 0, Value.int IntKind.i64 0, Value.int IntKind.i64 0, Value.int IntKind.i64 0, Value.int IntKind.i64 0, Value.int IntKind.i64 0, Value.int IntKind.i64 0]) := by kernel_rfl
theorem tyF_46_0 : fOff Tryz.prog 46 0 = some 0 := by kernel_rfl
theorem tyB_80 : tyParts Tryz.prog 80 = some ([(0, 1), (1, 2), (3, 2), (5, 1), (6, 1), (7, 2)], [Value.int IntKind.i64 0, Value.string ByteArray.empty, Value.int IntKind.i64 0, Value.string ByteArray.empty, Value.int IntKind.i64 0, Value.string ByteArray.empty, Value.string ByteArray.empty, Value.int IntKind.i64 0, Value.int IntKind.i64 0]) := by kernel_rfl
theorem tyR_74 : tyRow Tryz.prog 74 = some (80, 9, 104) := by kernel_rfl
theorem tyB_85 : tyParts Tryz.prog 85 = some ([(0, 1), (1, 1), (2, 1)], [Value.slice none 0 0, Value.map none, Value.slice none 0 0]) := by kernel_rfl
theorem tyF_85_2 : fOff Tryz.prog 85 2 = some 2 := by kernel_rfl
theorem tyR_55 : tyRow Tryz.prog 55 = some (3, 1, 8) := by kernel_rfl
theorem tyF_85_0 : fOff Tryz.prog 85 0 = some 0 := by kernel_rfl
theorem tyA_61 : tyAgg Tryz.prog 61 = false := by kernel_rfl
theorem tyS_61 : tySize Tryz.prog 61 = 1 := by kernel_rfl
theorem tyA_60 : tyAgg Tryz.prog 60 = false := by kernel_rfl
theorem tyS_60 : tySize Tryz.prog 60 = 1 := by kernel_rfl
theorem tyE_60 : tyElem Tryz.prog 60 = (59, 3) := by kernel_rfl
theorem tyK_60 : tyK Tryz.prog 60 = TyK.slice := by kernel_rfl
theorem tyA_59 : tyAgg Tryz.prog 59 = true := by kernel_rfl
theorem tyS_59 : tySize Tryz.prog 59 = 3 := by kernel_rfl
theorem tyZ_59 : tyZero Tryz.prog 59 = some (Value.agg #[Value.int IntKind.i64 0, Value.int IntKind.i64 0, Value.int IntKind.i64 0]) := by kernel_rfl
theorem tyF_59_2 : fOff Tryz.prog 59 2 = some 2 := by kernel_rfl
theorem tyR_65 : tyRow Tryz.prog 65 = some (55, 1, 24) := by kernel_rfl
theorem tyA_95 : tyAgg Tryz.prog 95 = true := by kernel_rfl
theorem tyS_95 : tySize Tryz.prog 95 = 6 := by kernel_rfl
theorem tyZ_95 : tyZero Tryz.prog 95 = some (Value.agg #[Value.slice none 0 0, Value.slice none 0 0, Value.int IntKind.i64 0, Value.int IntKind.i64 0, Value.slice none 0 0, Value.slice none 0 0]) := by kernel_rfl
theorem tyR_47 : tyRow Tryz.prog 47 = some (4, 1, 1) := by kernel_rfl
theorem tyF_71_1 : fOff Tryz.prog 71 1 = some 1 := by kernel_rfl
theorem tyF_71_2 : fOff Tryz.prog 71 2 = some 2 := by kernel_rfl
theorem tyF_69_0 : fOff Tryz.prog 69 0 = some 0 := by kernel_rfl
theorem tyA_65 : tyAgg Tryz.prog 65 = false := by kernel_rfl
theorem tyS_65 : tySize Tryz.prog 65 = 1 := by kernel_rfl
theorem tyB_71 : tyParts Tryz.prog 71 = some ([(0, 1), (1, 1), (2, 1), (3, 7)], [Value.int IntKind.i64 0, Value.int IntKind.i64 0, Value.int IntKind.i64 0, Value.int IntKind.i64 0, Value.int IntKind.i64 0, Value.int IntKind.i64 0, Value.int IntKind.i64 0, Value.int IntKind.i64 0, Value.int IntKind.i64 0, Value.int IntKind.i64 0]) := by kernel_rfl
theorem tyZ_107 : tyZero Tryz.prog 107 = some (Value.agg #[Value.slice none 0 0, Value.int IntKind.i64 0, Value.int IntKind.i64 0, Value.slice none 0 0, Value.slice none 0 0]) := by kernel_rfl
theorem tyS_107 : tySize Tryz.prog 107 = 5 := by kernel_rfl
theorem tyA_107 : tyAgg Tryz.prog 107 = true := by kernel_rfl
theorem tyF_95_0 : fOff Tryz.prog 95 0 = some 0 := by kernel_rfl
theorem tyA_93 : tyAgg Tryz.prog 93 = true := by kernel_rfl
theorem tyS_93 : tySize Tryz.prog 93 = 2 := by kernel_rfl
theorem tyF_85_1 : fOff Tryz.prog 85 1 = some 1 := by kernel_rfl
theorem tyA_83 : tyAgg Tryz.prog 83 = false := by kernel_rfl
theorem tyS_83 : tySize Tryz.prog 83 = 1 := by kernel_rfl
theorem tyN_83 : tyMap Tryz.prog 83 = some (71, 3) := by kernel_rfl
theorem tyR_61 : tyRow Tryz.prog 61 = some (71, 10, 80) := by kernel_rfl
theorem tyF_95_1 : fOff Tryz.prog 95 1 = some 2 := by kernel_rfl
theorem tyF_95_2 : fOff Tryz.prog 95 2 = some 3 := by kernel_rfl
theorem tyF_95_3 : fOff Tryz.prog 95 3 = some 4 := by kernel_rfl
theorem tyF_95_4 : fOff Tryz.prog 95 4 = some 5 := by kernel_rfl
theorem tyB_107 : tyParts Tryz.prog 107 = some ([(0, 1), (1, 1), (2, 1), (3, 1), (4, 1)], [Value.slice none 0 0, Value.int IntKind.i64 0, Value.int IntKind.i64 0, Value.slice none 0 0, Value.slice none 0 0]) := by kernel_rfl
theorem tyF_107_1 : fOff Tryz.prog 107 1 = some 1 := by kernel_rfl
theorem tyF_46_3 : fOff Tryz.prog 46 3 = some 5 := by kernel_rfl
theorem tyF_107_2 : fOff Tryz.prog 107 2 = some 2 := by kernel_rfl
theorem tyF_107_3 : fOff Tryz.prog 107 3 = some 3 := by kernel_rfl
theorem tyF_46_4 : fOff Tryz.prog 46 4 = some 6 := by kernel_rfl
theorem tyZ_3 : tyZero Tryz.prog 3 = some (Value.int IntKind.i64 0) := by kernel_rfl
end
section
open Go.RowKit

/-- code, as it is: what it asks of a state -/
def SC (P : Program) (c : Code) (Q : Exit → ASt → Prop) (st : ASt) : Prop := ∀ (cx : Cx) (a : Act) (w : World) (L : Nat → Value), Conc cx a w st L → c.wp P (AfterC cx Q) a w
section
variable {P : Program} {x y : Code} {Q Q' : Exit → ASt → Prop} {st st' : ASt}
theorem SC.mono (h : SC P x Q st) (hq : ∀ e st, Q e st → Q' e st) : SC P x Q' st := fun cx a w L hc => Code.wp_mono (fun e a w ⟨st', L', h1, h2⟩ => ⟨st', L', hq e st' h1, h2⟩) (h cx a w L hc)
end
/-- a contract of old -/
theorem adet_of_calls {P : Program} {f : FuncId} {args : List AV} {v : Value} (he : Enters P f)
    (h : ∀ (S : Nat → Prop) (w : World) (vs : Array Value), SOk w S → vs.size = args.length → (∀ (j : Nat) (v : Value) (av : AV), vs[j]? = some v → args[j]? = some av → RT w S v av) → Calls P f vs w fun e w' => e = .returned v ∧ Below w.heap.size w w') : ADet P f args (val v) :=
  ⟨he, fun S w vs h1 h2 h3 => (h S w vs h1 h2 h3).mono fun e w' ⟨h4, h5⟩ => ⟨v, fun _ => undef, val v, rfl, val_ok v, h4, ⟨belowX h5, fun id o h => (by cases h), fun id id' o o' g h => (by cases h), fun b hb => hb.elim⟩, .tree (.c v)⟩⟩
/-- a contract, said of values -/
theorem ADet.calls {P : Program} {f : FuncId} {args : List AV} {v : Value} (h : ADet P f args (val v)) {w : World} {vs : Array Value} (h2 : vs.size = args.length) (h3 : ∀ (j : Nat) (v : Value) (av : AV), vs[j]? = some v → args[j]? = some av → RT w (fun b => b < w.heap.size) v av) (hA : Amb w := by exact amb_any _) :
    Calls P f vs w fun e w' => e = .returned v ∧ Below w.heap.size w w' :=
  (h.2 _ w vs ⟨fun b hb => hb, hA, fun b hb => Nat.lt_of_lt_of_le hb hA.le⟩ h2 h3).mono fun e w' ⟨v', L, R, h0, _, h4, h5, h6⟩ => by
    subst h0
    obtain rfl := h6.c_inv
    exact ⟨h4, h5.below.below fun b hb => hb⟩
/-- the answer: one new slice -/
def own (e : TypeId) (sz : Nat) (rows : List (List AV)) : Res := ⟨.osl 0, [(0, some (.row e sz rows))], 1⟩
theorem own_ok (e : TypeId) (sz : Nat) (rows : List (List AV)) : (own e sz rows).Ok := by
  refine ⟨fun id o h => ?_, Nat.zero_lt_one⟩
  simp only [own, ATab.get_cons] at h
  split at h
  · rename_i e
    cases h
    subst e
    exact ⟨Nat.zero_lt_one, trivial⟩
  · cases h
theorem aGives_own {e : TypeId} {sz : Nat} {rows : List (List AV)} {st : ASt} {id : Nat} : st.tab.get id = some (.row e sz rows) → aGives (own e sz rows) st (.osl id) := fun h =>
  ⟨[id], by simp, rfl, ⟨Nat.zero_lt_one, ⟨e, sz, rows, rfl⟩, h⟩, trivial⟩
theorem retV {Post : Res → Prop} {st : ASt} {v : Value} (h : Post (val v)) : ∃ R, Post R ∧ R.Ok ∧ aGives R st (.c v) := ⟨_, h, val_ok v, gives_val rfl⟩
/-- a call, by what is known of its answers -/
theorem callP {u : Option (Nat × List Nat)} {P : Program} {st : ASt} {g : FuncId} {args : List AV} {K : AV → ASt → Prop} {Post : Res → Prop} (h : ARel P g (args.map (dref st.tab)) Post) (hk : ∀ R, Post R → (roL args ∨ (R.r.plain ∧ R.tab.plain)) ∧ K (R.r.shift st.next) { st with tab := R.tab.shift st.next ++ st.tab, next := st.next + R.n }) : aCall u P st g args K := .inl (.inl ⟨Post, h, hk⟩)
/-- a call that gives back this -/
theorem callR {u : Option (Nat × List Nat)} {P : Program} {st : ASt} {g : FuncId} {args : List AV} {K : AV → ASt → Prop} {R : Res} (h : ADet P g (args.map (dref st.tab)) R) (ho : roL args ∨ (R.r.plain ∧ R.tab.plain)) (hk : K (R.r.shift st.next) { st with tab := R.tab.shift st.next ++ st.tab, next := st.next + R.n }) : aCall u P st g args K :=
  .inl (.inl ⟨_, h, fun R' e => by subst e; exact ⟨ho, hk⟩⟩)
/-- a call that gives back one value -/
theorem callV {u : Option (Nat × List Nat)} {P : Program} {st : ASt} {g : FuncId} {args : List AV} {dst : Option Nat} {K : ASt → Prop} {v : Value} (h : ADet P g (args.map (dref st.tab)) (val v)) (hk : K (st.put dst (.c v))) : aCall u P st g args (aK2 dst K) :=
  callR h (.inr ⟨trivial, trivial⟩) hk
/-- the rules of a walk, in one -/
theorem ruA : type_of% (And.intro (And.intro (And.intro (And.intro (And.intro (And.intro (And.intro @aCode_skip @aCode_regF) (And.intro @aCode_regT (And.intro @aCode_seq @aCode_cond))) (And.intro (And.intro @aCode_block @aCode_loop) (And.intro @aCode_exit (And.intro @aCode_ret @aCode_label)))) (And.intro (And.intro (And.intro @aCode_scope @aNoGoto_normal) (And.intro @aNoGoto_ret (And.intro @aNoGoto_exit @aThen_normal))) (And.intro (And.intro @aThen_exit (And.intro @aThen_ret @aInBlock_normal)) (And.intro @aInBlock_ret (And.intro @aInBlock_exit @aCond_bool))))) (And.intro (And.intro (And.intro (And.intro @aSkip_eq @aKs_eq) (And.intro @aK_eq (And.intro @aK2_eq @aFn_eq))) (And.intro (And.intro @aFn_clo @aFnB_eq) (And.intro @aFnB_clo (And.intro @aFnB_bfn @aCallF_eq)))) (And.intro (And.intro (And.intro @aCallB_eq @aCallE_eq) (And.intro @aCallD_eq (And.intro @aOps_nil @aOps_plain))) (And.intro (And.intro @aOps_guard (And.intro @aDops_nil @aDops_plain)) (And.intro @aDops_guard (And.intro @aGuardD_eq @aGuardV_bool)))))) (And.intro (And.intro (And.intro (And.intro (And.intro @aGuardV_undef @aGd_tt) (And.intro @aGd_ff (And.intro @aGd_tf @aGd_ft))) (And.intro (And.intro @aIf_true @aIf_false) (And.intro @aSel_true (And.intro @aSel_false @aPickK_bool)))) (And.intro (And.intro (And.intro @aOp_move @aOp_assign) (And.intro @aOp_pick (And.intro @aOp_load @aOp_field))) (And.intro (And.intro @aOp_index (And.intro @aOp_bin @aOp_un)) (And.intro @aOp_extract (And.intro @aOp_conv @aOp_len))))) (And.intro (And.intro (And.intro (And.intro @aOp_append @aOp_call) (And.intro @aOp_makeFunc (And.intro @aOp_makeFuncB @aOp_box))) (And.intro (And.intro @aOp_alloc (And.intro @aOp_store @aOp_buildSlice)) (And.intro @aOp_makeSlice (And.intro @aOp_build @aDop_move)))) (And.intro (And.intro (And.intro @aDop_assign @aDop_pick) (And.intro @aDop_load (And.intro @aDop_field @aDop_index))) (And.intro (And.intro @aDop_bin (And.intro @aDop_un @aDop_extract)) (And.intro @aDop_conv (And.intro @aDop_len @aDop_call))))))) (And.intro (And.intro (And.intro (And.intro (And.intro (And.intro @aDop_makeFunc @aDop_build) (And.intro @aGives_val (And.intro @aRet_n @aRet_r))) (And.intro (And.intro @aRetR_n @aRetR_r) (And.intro @aPops_nil (And.intro @aPops_plain @aPops_guard)))) (And.intro (And.intro (And.intro @aPop_eq @aHeldH_nil) (And.intro @aHeldH_cons (And.intro @aHeld_nil @aHeld_take))) (And.intro (And.intro @aHeld_exec (And.intro @aHeld_two @aHeld_three)) (And.intro @aHeldL_plain (And.intro @aHeldL_guard @aHeldT_plain))))) (And.intro (And.intro (And.intro (And.intro @aHeldT_guard @aTakeY_eq) (And.intro @aTakeN_eq (And.intro @aTakeP_build @aTakeP_move))) (And.intro (And.intro @aTakeP_assign (And.intro @aTakeP_pick @aTakeP_load)) (And.intro @aTakeP_field (And.intro @aTakeP_index @aTakeP_fieldV)))) (And.intro (And.intro (And.intro @aTakeP_bin @aTakeP_un) (And.intro @aTakeP_extract (And.intro @aTakeP_conv @aTakeP_call))) (And.intro (And.intro @aTakeP_clo (And.intro @aHeldE_eq @aHeldE_guard)) (And.intro @aExecK_eq (And.intro @aExec_assign @aExec_load)))))) (And.intro (And.intro (And.intro (And.intro (And.intro @aExec_store @aExec_append) (And.intro @aExec_call (And.intro @aExec_buildSlice @aPure_move))) (And.intro (And.intro @aPure_assign @aPure_pick) (And.intro @aPure_load (And.intro @aPure_field @aPure_index)))) (And.intro (And.intro (And.intro @aPure_bin @aPure_un) (And.intro @aPure_extract (And.intro @aPure_len @aPure_makeFunc))) (And.intro (And.intro @aOp_fieldV (And.intro @aDop_fieldV @aPure_fieldV)) (And.intro @aOp_slice (And.intro @aDop_slice @aPure_slice))))) (And.intro (And.intro (And.intro (And.intro @aTakeP_slice @aExec_makeSlice) (And.intro @aPure_max (And.intro @aPure_min @aOp_max))) (And.intro (And.intro @aOp_min (And.intro @aDop_max @aDop_min)) (And.intro @aExec_alloc (And.intro @aOp_nilChk @aDop_nilChk)))) (And.intro (And.intro (And.intro @aTakeP_nilChk @aPure_nilChk) (And.intro @aExec_box (And.intro @aOp_clear @aOp_makeMap))) (And.intro (And.intro @aOp_lookup (And.intro @aOp_mapUpdate @aExec_lookup)) (And.intro @aExec_mapUpdate (And.intro @aRetH_n @aRetH_r)))))))) :=
  (And.intro (And.intro (And.intro (And.intro (And.intro (And.intro (And.intro @aCode_skip @aCode_regF) (And.intro @aCode_regT (And.intro @aCode_seq @aCode_cond))) (And.intro (And.intro @aCode_block @aCode_loop) (And.intro @aCode_exit (And.intro @aCode_ret @aCode_label)))) (And.intro (And.intro (And.intro @aCode_scope @aNoGoto_normal) (And.intro @aNoGoto_ret (And.intro @aNoGoto_exit @aThen_normal))) (And.intro (And.intro @aThen_exit (And.intro @aThen_ret @aInBlock_normal)) (And.intro @aInBlock_ret (And.intro @aInBlock_exit @aCond_bool))))) (And.intro (And.intro (And.intro (And.intro @aSkip_eq @aKs_eq) (And.intro @aK_eq (And.intro @aK2_eq @aFn_eq))) (And.intro (And.intro @aFn_clo @aFnB_eq) (And.intro @aFnB_clo (And.intro @aFnB_bfn @aCallF_eq)))) (And.intro (And.intro (And.intro @aCallB_eq @aCallE_eq) (And.intro @aCallD_eq (And.intro @aOps_nil @aOps_plain))) (And.intro (And.intro @aOps_guard (And.intro @aDops_nil @aDops_plain)) (And.intro @aDops_guard (And.intro @aGuardD_eq @aGuardV_bool)))))) (And.intro (And.intro (And.intro (And.intro (And.intro @aGuardV_undef @aGd_tt) (And.intro @aGd_ff (And.intro @aGd_tf @aGd_ft))) (And.intro (And.intro @aIf_true @aIf_false) (And.intro @aSel_true (And.intro @aSel_false @aPickK_bool)))) (And.intro (And.intro (And.intro @aOp_move @aOp_assign) (And.intro @aOp_pick (And.intro @aOp_load @aOp_field))) (And.intro (And.intro @aOp_index (And.intro @aOp_bin @aOp_un)) (And.intro @aOp_extract (And.intro @aOp_conv @aOp_len))))) (And.intro (And.intro (And.intro (And.intro @aOp_append @aOp_call) (And.intro @aOp_makeFunc (And.intro @aOp_makeFuncB @aOp_box))) (And.intro (And.intro @aOp_alloc (And.intro @aOp_store @aOp_buildSlice)) (And.intro @aOp_makeSlice (And.intro @aOp_build @aDop_move)))) (And.intro (And.intro (And.intro @aDop_assign @aDop_pick) (And.intro @aDop_load (And.intro @aDop_field @aDop_index))) (And.intro (And.intro @aDop_bin (And.intro @aDop_un @aDop_extract)) (And.intro @aDop_conv (And.intro @aDop_len @aDop_call))))))) (And.intro (And.intro (And.intro (And.intro (And.intro (And.intro @aDop_makeFunc @aDop_build) (And.intro @aGives_val (And.intro @aRet_n @aRet_r))) (And.intro (And.intro @aRetR_n @aRetR_r) (And.intro @aPops_nil (And.intro @aPops_plain @aPops_guard)))) (And.intro (And.intro (And.intro @aPop_eq @aHeldH_nil) (And.intro @aHeldH_cons (And.intro @aHeld_nil @aHeld_take))) (And.intro (And.intro @aHeld_exec (And.intro @aHeld_two @aHeld_three)) (And.intro @aHeldL_plain (And.intro @aHeldL_guard @aHeldT_plain))))) (And.intro (And.intro (And.intro (And.intro @aHeldT_guard @aTakeY_eq) (And.intro @aTakeN_eq (And.intro @aTakeP_build @aTakeP_move))) (And.intro (And.intro @aTakeP_assign (And.intro @aTakeP_pick @aTakeP_load)) (And.intro @aTakeP_field (And.intro @aTakeP_index @aTakeP_fieldV)))) (And.intro (And.intro (And.intro @aTakeP_bin @aTakeP_un) (And.intro @aTakeP_extract (And.intro @aTakeP_conv @aTakeP_call))) (And.intro (And.intro @aTakeP_clo (And.intro @aHeldE_eq @aHeldE_guard)) (And.intro @aExecK_eq (And.intro @aExec_assign @aExec_load)))))) (And.intro (And.intro (And.intro (And.intro (And.intro @aExec_store @aExec_append) (And.intro @aExec_call (And.intro @aExec_buildSlice @aPure_move))) (And.intro (And.intro @aPure_assign @aPure_pick) (And.intro @aPure_load (And.intro @aPure_field @aPure_index)))) (And.intro (And.intro (And.intro @aPure_bin @aPure_un) (And.intro @aPure_extract (And.intro @aPure_len @aPure_makeFunc))) (And.intro (And.intro @aOp_fieldV (And.intro @aDop_fieldV @aPure_fieldV)) (And.intro @aOp_slice (And.intro @aDop_slice @aPure_slice))))) (And.intro (And.intro (And.intro (And.intro @aTakeP_slice @aExec_makeSlice) (And.intro @aPure_max (And.intro @aPure_min @aOp_max))) (And.intro (And.intro @aOp_min (And.intro @aDop_max @aDop_min)) (And.intro @aExec_alloc (And.intro @aOp_nilChk @aDop_nilChk)))) (And.intro (And.intro (And.intro @aTakeP_nilChk @aPure_nilChk) (And.intro @aExec_box (And.intro @aOp_clear @aOp_makeMap))) (And.intro (And.intro @aOp_lookup (And.intro @aOp_mapUpdate @aExec_lookup)) (And.intro @aExec_mapUpdate (And.intro @aRetH_n @aRetH_r))))))))
theorem ruB : type_of% (And.intro (And.intro (And.intro (And.intro (And.intro @ATab.get_cons (And.intro @Nat.zero_add @Nat.add_zero)) (And.intro (And.intro @List.getElem?_cons_zero.{0} @List.getElem?_cons_succ.{0}) (And.intro @List.getElem?_toArray.{0} @Option.bind_some.{0,0}))) (And.intro (And.intro (And.intro @List.map_cons.{0,0} @List.map_nil.{0,0}) (And.intro @List.length_cons.{0} @List.length_nil.{0})) (And.intro (And.intro @List.drop_succ_cons.{0} @List.drop_zero.{0}) (And.intro @List.take_succ_cons.{0} @List.take_zero.{0})))) (And.intro (And.intro (And.intro (And.intro @List.headD_cons.{0} @List.length_map.{0,0}) (And.intro @Bool.not_true @Bool.not_false)) (And.intro (And.intro @true_and @and_true) (And.intro @Option.getD_some.{0} @List.cons_append.{0}))) (And.intro (And.intro (And.intro @List.nil_append.{0} @List.append_nil.{0}) (And.intro @Nat.succ_ne_self @Nat.one_ne_zero)) (And.intro (And.intro @AV.c.injEq @Value.bool.injEq) (And.intro @Value.int.injEq @false_implies))))) (And.intro (And.intro (And.intro (And.intro (And.intro @decide_eq_true_eq @decide_eq_false_iff_not) (And.intro @Int.natCast_nonneg @Int.ofNat_lt)) (And.intro (And.intro @Int.ofNat_le @Int.toNat_natCast) (And.intro @not_false_eq_true @not_true_eq_false))) (And.intro (And.intro (And.intro @Nat.le_refl @false_and) (And.intro @and_false @Nat.succ_ne_zero)) (And.intro (And.intro @imp_self @true_implies) (And.intro @decide_true @decide_false)))) (And.intro (And.intro (And.intro (And.intro @List.set_cons_zero.{0} @List.set_cons_succ.{0}) (And.intro @Nat.zero_le @List.mem_cons.{0})) (And.intro (And.intro @List.not_mem_nil.{0} @or_false) (And.intro @List.flatMap_cons.{0,0} @List.flatMap_nil.{0,0}))) (And.intro (And.intro (And.intro @Option.map_some.{0,0} @Option.map_none.{0,0}) (And.intro @Option.isSome_some.{0} @Option.isSome_none.{0})) (And.intro (And.intro @Int.le_refl @List.take_length.{0}) (And.intro @true_or @or_true)))))) :=
  (And.intro (And.intro (And.intro (And.intro (And.intro @ATab.get_cons (And.intro @Nat.zero_add @Nat.add_zero)) (And.intro (And.intro @List.getElem?_cons_zero.{0} @List.getElem?_cons_succ.{0}) (And.intro @List.getElem?_toArray.{0} @Option.bind_some.{0,0}))) (And.intro (And.intro (And.intro @List.map_cons.{0,0} @List.map_nil.{0,0}) (And.intro @List.length_cons.{0} @List.length_nil.{0})) (And.intro (And.intro @List.drop_succ_cons.{0} @List.drop_zero.{0}) (And.intro @List.take_succ_cons.{0} @List.take_zero.{0})))) (And.intro (And.intro (And.intro (And.intro @List.headD_cons.{0} @List.length_map.{0,0}) (And.intro @Bool.not_true @Bool.not_false)) (And.intro (And.intro @true_and @and_true) (And.intro @Option.getD_some.{0} @List.cons_append.{0}))) (And.intro (And.intro (And.intro @List.nil_append.{0} @List.append_nil.{0}) (And.intro @Nat.succ_ne_self @Nat.one_ne_zero)) (And.intro (And.intro @AV.c.injEq @Value.bool.injEq) (And.intro @Value.int.injEq @false_implies))))) (And.intro (And.intro (And.intro (And.intro (And.intro @decide_eq_true_eq @decide_eq_false_iff_not) (And.intro @Int.natCast_nonneg @Int.ofNat_lt)) (And.intro (And.intro @Int.ofNat_le @Int.toNat_natCast) (And.intro @not_false_eq_true @not_true_eq_false))) (And.intro (And.intro (And.intro @Nat.le_refl @false_and) (And.intro @and_false @Nat.succ_ne_zero)) (And.intro (And.intro @imp_self @true_implies) (And.intro @decide_true @decide_false)))) (And.intro (And.intro (And.intro (And.intro @List.set_cons_zero.{0} @List.set_cons_succ.{0}) (And.intro @Nat.zero_le @List.mem_cons.{0})) (And.intro (And.intro @List.not_mem_nil.{0} @or_false) (And.intro @List.flatMap_cons.{0,0} @List.flatMap_nil.{0,0}))) (And.intro (And.intro (And.intro @Option.map_some.{0,0} @Option.map_none.{0,0}) (And.intro @Option.isSome_some.{0} @Option.isSome_none.{0})) (And.intro (And.intro @Int.le_refl @List.take_length.{0}) (And.intro @true_or @or_true))))))
theorem ruW : type_of% (And.intro (And.intro (And.intro (And.intro @ATab.get_cons @and_true) (And.intro @true_and (And.intro @AV.c.injEq @Value.int.injEq))) (And.intro (And.intro @Value.bool.injEq @Bool.not_true) (And.intro @Bool.not_false (And.intro @Nat.succ_ne_self @Nat.one_ne_zero)))) (And.intro (And.intro (And.intro @Nat.succ_ne_zero @not_true_eq_false) (And.intro @not_false_eq_true (And.intro @Int.natCast_nonneg @List.map_cons.{0,0}))) (And.intro (And.intro @List.map_nil.{0,0} (And.intro @List.cons_append.{0} @List.nil_append.{0})) (And.intro @List.append_nil.{0} (And.intro @decide_true @decide_false))))) :=
  (And.intro (And.intro (And.intro (And.intro @ATab.get_cons @and_true) (And.intro @true_and (And.intro @AV.c.injEq @Value.int.injEq))) (And.intro (And.intro @Value.bool.injEq @Bool.not_true) (And.intro @Bool.not_false (And.intro @Nat.succ_ne_self @Nat.one_ne_zero)))) (And.intro (And.intro (And.intro @Nat.succ_ne_zero @not_true_eq_false) (And.intro @not_false_eq_true (And.intro @Int.natCast_nonneg @List.map_cons.{0,0}))) (And.intro (And.intro @List.map_nil.{0,0} (And.intro @List.cons_append.{0} @List.nil_append.{0})) (And.intro @List.append_nil.{0} (And.intro @decide_true @decide_false)))))
end
section
open Go.RowKit
theorem enters_of {P : Program} {f : FuncId} {fn : Func} {c : Code} (hf : P.funcs[f]? = some fn) (hb : fn.body = some c) (hname : (fn.name == "runtime.NumGoroutine") = false) : Enters P f := fun args w => by
  have : ¬ fn.name = "runtime.NumGoroutine" := by simpa using hname
  simp [callFunc, Sem.run_bind, hf, this, hb]
theorem rtc {w : World} {S : Nat → Prop} {v u : Value} (h : RT w S v (.c u)) : v = u := by cases h; rfl
theorem callT {u : Option (Nat × List Nat)} {P : Program} {st : ASt} {g : FuncId} {args : List AV} {K : AV → ASt → Prop} {r : AV} (h : ADet P g (args.map (dref st.tab)) ⟨r, [], 0⟩) (ho : roL args ∨ r.plain) (hk : K (r.shift st.next) st) : aCall u P st g args K :=
  callR h (ho.imp id fun h => ⟨h, trivial⟩) hk
theorem take_snoc {α β : Type} (f : α → β) (l : List α) {k : Nat} (h : k < l.length) : (l.take (k + 1)).map f = (l.take k).map f ++ [f l[k]] := by
  rw [List.take_add_one, List.getElem?_eq_getElem h, List.map_append]
  rfl
theorem callO {u : Option (Nat × List Nat)} {P : Program} {st : ASt} {g : FuncId} {args : List AV} {K : AV → ASt → Prop} {e : TypeId} {sz : Nat} {rows : List (List AV)} (h : ADet P g (args.map (dref st.tab)) (own e sz rows)) (ho : roL args ∨ ∀ row ∈ rows, ∀ av ∈ row, av.plain) (hk : K (.osl st.next) ⟨st.n, st.env, (st.next, some (.row e sz rows)) :: st.tab, st.next + 1⟩) : aCall u P st g args K :=
  callR h (ho.imp id fun h => ⟨trivial, h, trivial⟩) (by
    have e1 : (own e sz rows).r.shift st.next = .osl st.next := by simp [own, AV.shift]
    have e2 : (own e sz rows).tab.shift st.next = [(st.next, some (.row e sz rows))] := by simp [own, ATab.shift, AObj.shift]
    rw [e1, e2]
    exact hk)
/-- what is a value of the one is one of the other -/
inductive Fits0 : AV → AV → Prop
  | refl (a : AV) : Fits0 a a
  | nil (sz : Nat) : Fits0 (.c (.slice none 0 0)) (.sl sz [])
def RowFit : List AV → List AV → Prop
  | [], [] => True
  | a :: l, b :: l' => Fits0 a b ∧ RowFit l l'
  | _, _ => False
def RowsFit : List (List AV) → List (List AV) → Prop
  | [], [] => True
  | a :: l, b :: l' => RowFit a b ∧ RowsFit l l'
  | _, _ => False
inductive Fits1 : AV → AV → Prop
  | refl (a : AV) : Fits1 a a
  | nil (sz : Nat) : Fits1 (.c (.slice none 0 0)) (.sl sz [])
  | rows {sz : Nat} {r r' : List (List AV)} (h : RowsFit r r') : Fits1 (.sl sz r) (.sl sz r')
def FitsL : List AV → List AV → Prop
  | [], [] => True
  | a :: l, b :: l' => Fits1 a b ∧ FitsL l l'
  | _, _ => False
inductive FitsA : AV → AV → Prop
  | one {a b : AV} (h : Fits1 a b) : FitsA a b
  | agg {l l' : List AV} (h : FitsL l l') : FitsA (.agg l) (.agg l')
def FitsAs : List AV → List AV → Prop
  | [], [] => True
  | a :: l, b :: l' => FitsA a b ∧ FitsAs l l'
  | _, _ => False
theorem Fits0.rt {w : World} {S : Nat → Prop} {v : Value} {a b : AV} (h : Fits0 a b) (hr : RT w S v a) : RT w S v b := by
  cases h with
  | refl => exact hr
  | nil sz =>
    rw [rtc hr]
    exact .sl none 0 0 sz [] 0 0 (fun _ _ => undef) rfl (Nat.le_refl _) (by omega) (fun h => by omega) (by simp) (fun h => by omega) (by simp) (by simp)
theorem RowFit.spec : ∀ {l l' : List AV}, RowFit l l' → l.length = l'.length ∧ ∀ (j : Nat) (b : AV), l'[j]? = some b → ∃ a, l[j]? = some a ∧ Fits0 a b
  | [], [], _ => ⟨rfl, fun j b h => by simp at h⟩
  | a :: l, b :: l', h => by
    obtain ⟨h1, h2⟩ := RowFit.spec h.2
    refine ⟨by simp [h1], fun j b' h3 => ?_⟩
    cases j with
    | zero =>
      simp at h3
      subst h3
      exact ⟨a, rfl, h.1⟩
    | succ j => exact h2 j b' (by simpa using h3)
  | [], _ :: _, h => h.elim
  | _ :: _, [], h => h.elim
theorem RowsFit.spec : ∀ {l l' : List (List AV)}, RowsFit l l' → l.length = l'.length ∧ ∀ (j : Nat) (b : List AV), l'[j]? = some b → ∃ a, l[j]? = some a ∧ RowFit a b
  | [], [], _ => ⟨rfl, fun j b h => by simp at h⟩
  | a :: l, b :: l', h => by
    obtain ⟨h1, h2⟩ := RowsFit.spec h.2
    refine ⟨by simp [h1], fun j b' h3 => ?_⟩
    cases j with
    | zero =>
      simp at h3
      subst h3
      exact ⟨a, rfl, h.1⟩
    | succ j => exact h2 j b' (by simpa using h3)
  | [], _ :: _, h => h.elim
  | _ :: _, [], h => h.elim
theorem Fits1.rt {w : World} {S : Nat → Prop} {v : Value} {a b : AV} (h : Fits1 a b) (hr : RT w S v a) : RT w S v b := by
  cases h with
  | refl => exact hr
  | nil sz => exact (Fits0.nil sz).rt hr
  | rows h =>
    rename_i sz r r'
    obtain ⟨hl, hx⟩ := h.spec
    cases hr with
    | sl A n cap sz rows b o U hn hc hm hA hs hcell hone hr =>
      have key : ∀ i j row' av', r'[i]? = some row' → row'[j]? = some av' → ∃ row av, r[i]? = some row ∧ row[j]? = some av ∧ Fits0 av av' := fun i j row' av' h1 h2 => by
        obtain ⟨row, h3, h4⟩ := hx i row' h1
        obtain ⟨av, h5, h6⟩ := h4.spec.2 j av' h2
        exact ⟨row, av, h3, h5, h6⟩
      refine .sl A n cap sz r' b o U (hn.trans hl) hc hm hA (fun row' hrow => ?_) (fun h0 i j row' av' h1 h2 => ?_) (fun i j row' av' h1 h2 => ?_) (fun i j row' av' h1 h2 => ?_)
      · obtain ⟨i, hi⟩ := List.getElem?_of_mem hrow
        obtain ⟨row, h3, h4⟩ := hx i row' hi
        rw [← h4.spec.1]
        exact hs row (List.mem_of_getElem? h3)
      · obtain ⟨row, av, h3, h4, _⟩ := key i j row' av' h1 h2
        exact hcell h0 i j row av h3 h4
      · obtain ⟨row, av, h3, h4, _⟩ := key i j row' av' h1 h2
        exact hone i j row av h3 h4
      · obtain ⟨row, av, h3, h4, h5⟩ := key i j row' av' h1 h2
        exact h5.rt (hr i j row av h3 h4)
theorem FitsL.spec : ∀ {l l' : List AV}, FitsL l l' → l.length = l'.length ∧ ∀ (j : Nat) (a b : AV), l[j]? = some a → l'[j]? = some b → Fits1 a b
  | [], [], _ => ⟨rfl, fun j a b h => by simp at h⟩
  | a :: l, b :: l', h => by
    obtain ⟨h1, h2⟩ := FitsL.spec h.2
    refine ⟨by simp [h1], fun j a' b' h3 h4 => ?_⟩
    cases j with
    | zero =>
      simp at h3 h4
      subst h3 h4
      exact h.1
    | succ j => exact h2 j a' b' (by simpa using h3) (by simpa using h4)
  | [], _ :: _, h => h.elim
  | _ :: _, [], h => h.elim
theorem FitsA.rt {w : World} {S : Nat → Prop} {v : Value} {a b : AV} (h : FitsA a b) (hr : RT w S v a) : RT w S v b := by
  cases h with
  | one h => exact h.rt hr
  | agg h =>
    obtain ⟨hl, hx⟩ := h.spec
    cases hr with
    | agg xs cs hn hc =>
      refine .agg xs _ (hn.trans hl) fun j x av h1 h2 => ?_
      rename_i l l'
      have hj : j < l'.length := (List.getElem?_eq_some_iff.1 h2).1
      obtain ⟨a, ha⟩ : ∃ a, l[j]? = some a := ⟨_, List.getElem?_eq_getElem (by omega)⟩
      exact (hx j a av ha h2).rt (hc j x a h1 ha)
theorem FitsAs.spec : ∀ {l l' : List AV}, FitsAs l l' → l.length = l'.length ∧ ∀ (j : Nat) (a b : AV), l[j]? = some a → l'[j]? = some b → FitsA a b
  | [], [], _ => ⟨rfl, fun j a b h => by simp at h⟩
  | a :: l, b :: l', h => by
    obtain ⟨h1, h2⟩ := FitsAs.spec h.2
    refine ⟨by simp [h1], fun j a' b' h3 h4 => ?_⟩
    cases j with
    | zero =>
      simp at h3 h4
      subst h3 h4
      exact h.1
    | succ j => exact h2 j a' b' (by simpa using h3) (by simpa using h4)
  | [], _ :: _, h => h.elim
  | _ :: _, [], h => h.elim
theorem ADet.fits {P : Program} {f : FuncId} {args args' : List AV} {R : Res} (h : ADet P f args' R) (hf : FitsAs args args') : ADet P f args R :=
  ⟨h.1, fun S w vs h1 h2 h3 => h.2 S w vs h1 (h2.trans hf.spec.1) fun j v av h4 h5 => by
    have hj : j < args'.length := (List.getElem?_eq_some_iff.1 h5).1
    obtain ⟨a, ha⟩ : ∃ a, args[j]? = some a := ⟨_, List.getElem?_eq_getElem (by rw [hf.spec.1]; exact hj)⟩
    exact (hf.spec.2 j a av ha h5).rt (h3 j v a h4 ha)⟩
theorem ARel.fits {P : Program} {f : FuncId} {args args' : List AV} {Post : Res → Prop} (h : ARel P f args' Post) (hf : FitsAs args args') : ARel P f args Post :=
  ⟨h.1, fun S w vs h1 h2 h3 => h.2 S w vs h1 (h2.trans hf.spec.1) fun j v av h4 h5 => by
    have hj : j < args'.length := (List.getElem?_eq_some_iff.1 h5).1
    obtain ⟨a, ha⟩ : ∃ a, args[j]? = some a := ⟨_, List.getElem?_eq_getElem (by rw [hf.spec.1]; exact hj)⟩
    exact (hf.spec.2 j a av ha h5).rt (h3 j v a h4 ha)⟩
/-- a call that gives back some truth -/
theorem callPB {u : Option (Nat × List Nat)} {P : Program} {st : ASt} {g : FuncId} {args : List AV} {dst : Option Nat} {K : ASt → Prop} {Q : Bool → Prop} (h : ARel P g (args.map (dref st.tab)) fun R => ∃ b, R = val (.bool b) ∧ Q b) (hk : ∀ b, Q b → K (st.put dst (.c (.bool b)))) : aCall u P st g args (aK2 dst K) :=
  callP h fun R ⟨b, hR, hq⟩ => by subst hR; exact ⟨.inr ⟨trivial, trivial⟩, hk b hq⟩
section
variable {P : Program} {w : World} {d : Nat} {xs ys : Array Value} {f : Field} {fs : List Field}
end
end
section
open Go.RowKit

structure Inst where
  op : Int
  la : Int
  ln : Int
  ra : Int
  rn : Int
  n : Int
  u : Int
def arity (op : Int) : Int :=
  if 1 ≤ op ∧ op ≤ 14 then 0 else if op = 15 ∨ (19 ≤ op ∧ op ≤ 24) then 1 else if (16 ≤ op ∧ op ≤ 18) ∨ op = 25 ∨ op = 26 then 2 else -1
/-- how many formulas stand in the row behind one more sign -/
def pushN (d : Nat) (op : Int) : Option Nat :=
  if arity op = 0 then some (d + 1) else if arity op = 1 ∧ 1 ≤ d then some d else if arity op = 2 ∧ 2 ≤ d then some (d - 1) else none
def rowN : List Int → Nat → Option Nat
  | [], d => some d
  | op :: l, d => match pushN d op with
    | some d' => rowN l d'
    | none => none
/-- why a list of signs may be no formula -/
def checkE (l : List Int) : Int := if l.length = 0 then 12 else if 64 < l.length then 3 else if rowN l 0 = some 1 then 0 else 17
end
section
open Go.RowKit Go.ChangeShapes Go.WideShapes Go.Deep

/-- S: the blocks that the data may lie in -/
structure Rep (α : Type) where
  size : Nat
  at_ : World → (Nat → Prop) → List Value → α → Prop
  len : ∀ {w : World} {S : Nat → Prop} {cs : List Value} {a : α}, at_ w S cs a → cs.length = size
  keep : ∀ {w w' : World} {S : Nat → Prop} {cs : List Value} {a : α}, at_ w S cs a → (∀ p : Addr, S p.block → w'.cell? p = w.cell? p) → at_ w' S cs a
  mono : ∀ {w : World} {S S' : Nat → Prop} {cs : List Value} {a : α}, at_ w S cs a → (∀ b, S b → S' b) → at_ w S' cs a

/-- the value v of one cell holds the plain value a -/
def Rep.one {α : Type} (r : Rep α) (w : World) (S : Nat → Prop) (v : Value) (a : α) : Prop := r.at_ w S [v] a
/-- the struct's value v holds the plain value a -/
def Rep.agg {α : Type} (r : Rep α) (w : World) (S : Nat → Prop) (v : Value) (a : α) : Prop := ∃ cs : Array Value, v = .agg cs ∧ r.at_ w S cs.toList a

def intR (k : IntKind) : Rep Int where
  size := 1
  at_ := fun _ _ cs n => cs = [.int k n] ∧ (Lit.int k n).wf = true
  len := fun h => by rw [h.1]; rfl
  keep := fun h _ => h
  mono := fun h _ => h
def boolR : Rep Bool where
  size := 1
  at_ := fun _ _ cs b => cs = [.bool b]
  len := fun h => by rw [h]; rfl
  keep := fun h _ => h
  mono := fun h _ => h
def strR : Rep ByteArray where
  size := 1
  at_ := fun _ _ cs s => cs = [.string s] ∧ s.size ≤ 9223372036854775807
  len := fun h => by rw [h.1]; rfl
  keep := fun h _ => h
  mono := fun h _ => h

/-- the cells of a list of things, one behind the other, at an address -/
def rowAt {α : Type} (r : Rep α) (w : World) (S : Nat → Prop) (b o : Nat) (l : List α) : Prop :=
  ∀ i (h : i < l.length), ∃ cs, (∀ j u, cs[j]? = some u → w.cell? ⟨b, o + i * r.size + j, none⟩ = some u) ∧ r.at_ w S cs l[i]
theorem rowAt_keep {α : Type} {r : Rep α} {w w' : World} {S : Nat → Prop} {b o : Nat} {l : List α} (h : rowAt r w S b o l) (hb : S b) (hk : ∀ p : Addr, S p.block → w'.cell? p = w.cell? p) : rowAt r w' S b o l := by
  intro i hi
  obtain ⟨cs, h1, h2⟩ := h i hi
  exact ⟨cs, fun j u hu => (hk _ hb).trans (h1 j u hu), r.keep h2 hk⟩
theorem rowAt_mono {α : Type} {r : Rep α} {w : World} {S S' : Nat → Prop} {b o : Nat} {l : List α} (h : rowAt r w S b o l) (hB : ∀ b, S b → S' b) : rowAt r w S' b o l := by
  intro i hi
  obtain ⟨cs, h1, h2⟩ := h i hi
  exact ⟨cs, h1, r.mono h2 hB⟩

def sliceR {α : Type} (r : Rep α) : Rep (List α) where
  size := 1
  at_ := fun w S cs l => ∃ A c, cs = [.slice A l.length c] ∧ l.length ≤ c ∧ c ≤ 9223372036854775807 ∧ (0 < l.length → ∃ b o, A = some ⟨b, o, none⟩ ∧ S b ∧ rowAt r w S b o l)
  len := fun ⟨A, c, h, _⟩ => by rw [h]; rfl
  keep := fun ⟨A, c, h1, h2, h3, h4⟩ hk => ⟨A, c, h1, h2, h3, fun hl => by
    obtain ⟨b, o, e, hb, hr⟩ := h4 hl
    exact ⟨b, o, e, hb, rowAt_keep hr hb hk⟩⟩
  mono := fun ⟨A, c, h1, h2, h3, h4⟩ hB => ⟨A, c, h1, h2, h3, fun hl => by
    obtain ⟨b, o, e, hb, hr⟩ := h4 hl
    exact ⟨b, o, e, hB b hb, rowAt_mono hr hB⟩⟩

/-- a struct of two parts -/
def pairR {α β : Type} (r : Rep α) (s : Rep β) : Rep (α × β) where
  size := r.size + s.size
  at_ := fun w S cs x => ∃ c1 c2, cs = c1 ++ c2 ∧ r.at_ w S c1 x.1 ∧ s.at_ w S c2 x.2
  len := fun ⟨c1, c2, h, h1, h2⟩ => by rw [h, List.length_append, r.len h1, s.len h2]
  keep := fun ⟨c1, c2, h, h1, h2⟩ hk => ⟨c1, c2, h, r.keep h1 hk, s.keep h2 hk⟩
  mono := fun ⟨c1, c2, h, h1, h2⟩ hB => ⟨c1, c2, h, r.mono h1 hB, s.mono h2 hB⟩
def nilR : Rep Unit where
  size := 0
  at_ := fun _ _ cs _ => cs = []
  len := fun h => by rw [h]; rfl
  keep := fun h _ => h
  mono := fun h _ => h
theorem Rep.below {α : Type} {r : Rep α} {w w' : World} {S : Nat → Prop} {B' : Nat} {cs : List Value} {a : α} (h : r.at_ w S cs a) (hb : Below B' w w') (hB : ∀ b, S b → b < B') : r.at_ w' S cs a :=
  r.keep h fun p hp => hb.cell (hB _ hp)
theorem Rep.one_below {α : Type} {r : Rep α} {w w' : World} {S : Nat → Prop} {B' : Nat} {v : Value} {a : α} (h : r.one w S v a) (hb : Below B' w w') (hB : ∀ b, S b → b < B') : r.one w' S v a := Rep.below (r := r) h hb hB
/-- an int's range -/
theorem wf_i64 {n : Int} (h : (Lit.int .i64 n).wf = true) : -9223372036854775808 ≤ n ∧ n ≤ 9223372036854775807 := by
  simpa [Lit.wf, IntKind.min, IntKind.max, IntKind.signed, IntKind.bits] using h
theorem wf_i64_mk {n : Int} (h1 : -9223372036854775808 ≤ n) (h2 : n ≤ 9223372036854775807) : (Lit.int .i64 n).wf = true := by
  simp [Lit.wf, IntKind.min, IntKind.max, IntKind.signed, IntKind.bits]; omega

/-! ### the elements of a slice, met in a walk -/
section
variable {α : Type} {r : Rep α} {w w' : World} {S : Nat → Prop} {v : Value} {l : List α}
theorem slice_form (h : (sliceR r).one w S v l) : ∃ A c, v = .slice A l.length c ∧ l.length ≤ c ∧ c ≤ 9223372036854775807 := by
  obtain ⟨A, c, h1, h2, h3, _⟩ := h
  exact ⟨A, c, by simpa using h1, h2, h3⟩
theorem slice_some {A : Option Addr} {n c : Nat} (h : (sliceR r).one w S (.slice A n c) l) (hn : 0 < l.length) : ∃ b o, A = some ⟨b, o, none⟩ ∧ S b ∧ rowAt r w S b o l := by
  obtain ⟨A', c', h1, _, _, h4⟩ := h
  simp at h1
  obtain ⟨rfl, _, _⟩ := h1
  exact h4 hn
theorem slice_at1 (hs : r.size = 1) {b o c : Nat} {n : Nat} (h : (sliceR r).one w S (.slice (some ⟨b, o, none⟩) n c) l) {k : Nat} (hk : k < l.length) : ∃ u, w.cell? ⟨b, o + k, none⟩ = some u ∧ r.at_ w S [u] l[k] := by
  obtain ⟨b', o', e, _, hr⟩ := slice_some h (by omega)
  simp at e
  obtain ⟨rfl, rfl⟩ := e
  obtain ⟨cs, h1, h2⟩ := hr k hk
  have hl := r.len h2
  rw [hs] at hl h1
  match cs, hl with
  | [u], _ => exact ⟨u, by simpa using h1 0 u rfl, h2⟩
theorem slice_nil (w : World) (S : Nat → Prop) (r : Rep α) : (sliceR r).one w S (.slice none 0 0) [] := ⟨none, 0, rfl, Nat.le_refl _, by omega, fun h => absurd h (by simp)⟩
/-- an owned row, seen as a slice of things -/
theorem slice_own {base : Nat} {e : TypeId} {size n : Nat} {xs : List Value} (h : w.ownsRow base e size v n xs) (hs : r.size = size) (hn : n = l.length) (hx : ∀ i (hi : i < l.length), r.at_ w (fun b => base ≤ b ∧ b < w.heap.size) ((xs.drop (i * size)).take size) l[i]) :
    (sliceR r).one w (fun b => base ≤ b ∧ b < w.heap.size) v l := by
  subst hn
  rcases h.2 with ⟨rfl, h0⟩ | ⟨g, cap, cur, rfl, hb, hg, hc, hm, hcs, ht⟩
  · refine ⟨none, 0, by rw [h0], by omega, by omega, fun hl => by omega⟩
  · refine ⟨some ⟨g, 0, none⟩, cap, rfl, hc, by simpa [maxLen] using hm, fun hl => ⟨g, 0, rfl, ⟨hb, (Array.getElem?_eq_some_iff.1 hg).1⟩, fun i hi => ⟨_, fun j u hu => ?_, hx i hi⟩⟩⟩
    have hj : j < size := by
      have := (List.getElem?_eq_some_iff.1 hu).1
      simp at this; omega
    rw [List.getElem?_take, if_pos hj, List.getElem?_drop] at hu
    have := h.cells (g := g) rfl _ u hu
    rw [addAddr0] at this
    rw [hs, Nat.zero_add]
    exact this
theorem slice_own1 {base : Nat} {e : TypeId} {n : Nat} (f : α → Value) (h : w.ownsRow base e 1 v n (l.map f)) (hs : r.size = 1) (hx : ∀ a ∈ l, r.at_ w (fun b => base ≤ b ∧ b < w.heap.size) [f a] a) : (sliceR r).one w (fun b => base ≤ b ∧ b < w.heap.size) v l := by
  have hn : n = l.length := by have := h.1; simp at this; omega
  refine slice_own h hs hn fun i hi => ?_
  have e : (((l.map f).drop (i * 1)).take 1) = [f l[i]] := by
    rw [Nat.mul_one, List.drop_eq_getElem_cons (by simpa using hi)]
    simp
  rw [e]
  exact hx _ (List.getElem_mem hi)
theorem slice_below (h : (sliceR r).one w S v l) {B' : Nat} (hb : Below B' w w') (hB : ∀ b, S b → b < B') : (sliceR r).one w' S v l := Rep.one_below h hb hB
theorem slice_mono (h : (sliceR r).one w S v l) {S' : Nat → Prop} (hB : ∀ b, S b → S' b) : (sliceR r).one w S' v l := Rep.mono (sliceR r) h hB
theorem slice_keep (h : (sliceR r).one w S v l) (hk : ∀ p : Addr, S p.block → w'.cell? p = w.cell? p) : (sliceR r).one w' S v l := Rep.keep (sliceR r) h hk
end
theorem ints_at {w : World} {S : Nat → Prop} {b o c n : Nat} {l : List Int} (h : (sliceR (intR .i64)).one w S (.slice (some ⟨b, o, none⟩) n c) l) {k : Nat} (hk : k < l.length) :
    w.cell? ⟨b, o + k, none⟩ = some (.int .i64 l[k]) ∧ -9223372036854775808 ≤ l[k] ∧ l[k] ≤ 9223372036854775807 := by
  obtain ⟨u, h1, h2⟩ := slice_at1 (r := intR .i64) rfl h hk
  obtain ⟨h2, h3⟩ := h2
  simp at h2
  subst h2
  exact ⟨h1, wf_i64 h3⟩
theorem bools_at {w : World} {S : Nat → Prop} {b o c n : Nat} {l : List Bool} (h : (sliceR boolR).one w S (.slice (some ⟨b, o, none⟩) n c) l) {k : Nat} (hk : k < l.length) :
    w.cell? ⟨b, o + k, none⟩ = some (.bool l[k]) := by
  obtain ⟨u, h1, h2⟩ := slice_at1 (r := boolR) rfl h hk
  have h2 : [u] = [Value.bool l[k]] := h2
  simp at h2
  subst h2
  exact h1
theorem rows_at {α : Type} {r : Rep α} {w : World} {S : Nat → Prop} {b o c n : Nat} {l : List (List α)} (h : (sliceR (sliceR r)).one w S (.slice (some ⟨b, o, none⟩) n c) l) {k : Nat} (hk : k < l.length) :
    ∃ A c', w.cell? ⟨b, o + k, none⟩ = some (.slice A l[k].length c') ∧ l[k].length ≤ c' ∧ c' ≤ 9223372036854775807 ∧ (sliceR r).one w S (.slice A l[k].length c') l[k] := by
  obtain ⟨u, h1, h2⟩ := slice_at1 (r := sliceR r) rfl h hk
  obtain ⟨A, c', rfl, h3, h4⟩ := slice_form h2
  exact ⟨A, c', h1, h3, h4, h2⟩

theorem exists_list {α : Type} {p : Nat → α → Prop} : ∀ {n : Nat}, (∀ i, i < n → ∃ y, p i y) → ∃ l : List α, l.length = n ∧ ∀ i (h : i < l.length), p i l[i] := by
  intro n
  induction n with
  | zero => intro _; exact ⟨[], rfl, fun i h => absurd h (by simp)⟩
  | succ n ih =>
    intro h
    obtain ⟨l, h1, h2⟩ := ih fun i hi => h i (by omega)
    obtain ⟨y, hy⟩ := h n (by omega)
    refine ⟨l ++ [y], by simp [h1], fun i hi => ?_⟩
    by_cases hin : i < l.length
    · rw [List.getElem_append_left hin]; exact h2 i hin
    · have : i = l.length := by simp at hi; omega
      subst this
      rw [List.getElem_append_right (by omega)]
      simpa [h1] using hy

/-! ### arguments open into it -/
def Opens {α : Type} (P : Program) (t : TypeId) (r : Rep α) : Prop := ∀ (H : Type) (enc : TypeId × Value → H) (w : World) (fuel : Nat) (cs : List Value) (x : DataW H × List MemPlace),
  DataW.trod enc P w 0 (fun _ => true) true fuel t cs = some x → ∃ a, r.at_ w (fun b => b < w.heap.size) cs a
section
variable {P : Program}
theorem opens_int {t : TypeId} {k : IntKind} (h : P.underlying t = some (.int k)) : Opens P t (intR k) := by
  intro H enc w fuel cs x hx
  obtain ⟨n, rfl, _, hw⟩ := DataW.trod_int h hx
  exact ⟨n, rfl, hw⟩
theorem opens_bool {t : TypeId} (h : P.underlying t = some .bool) : Opens P t boolR := by
  intro H enc w fuel cs x hx
  obtain ⟨b, rfl, _⟩ := DataW.trod_bool h hx
  exact ⟨b, rfl⟩
theorem opens_slice {α : Type} {t e : TypeId} {r : Rep α} (ht : P.underlying t = some (.slice e)) (hs : P.cellsOf e = r.size) (hp : 0 < r.size) (ho : Opens P e r) : Opens P t (sliceR r) := by
  intro H enc w fuel cs x hx
  rcases Go.Deep.open_slice ht hx with ⟨rfl, _⟩ | ⟨a, len, cap, m, n, D, Pl, rfl, _, hl, hm, hmm, _, hi⟩
  · exact ⟨[], slice_nil _ _ _⟩
  · simp only [if_true] at hmm
    subst hmm
    obtain ⟨l, hll, hl2⟩ := exists_list (n := len) (p := fun i y => ∃ cs', w.cells? 0 (a.add (i * P.cellsOf e)) (P.cellsOf e) = some cs' ∧ r.at_ w (fun b => b < w.heap.size) cs' y) (fun i hil => by
      obtain ⟨cs', h1, h2⟩ := hi i (by omega)
      obtain ⟨y, hy⟩ := ho H enc w n cs' _ h2
      exact ⟨y, cs', h1, hy⟩)
    subst hll
    refine ⟨l, some a, _, rfl, hl, by simpa [maxLen] using hm, fun h0 => ?_⟩
    obtain ⟨cs0, h1, h2⟩ := hl2 0 h0
    obtain ⟨_, hlen, hc⟩ := World.cells?_some h1
    have hc0 := hc 0 (by omega)
    have hlt : 0 < cs0.length := by rw [hlen]; omega
    rw [List.getElem?_eq_getElem hlt] at hc0
    have e0 : (a.add (0 * P.cellsOf e)).add 0 = a := by simp [Addr.add]
    rw [e0] at hc0
    have hb := World.block_lt_of_cell? w a hc0
    have hsp : a.spot = none := by
      unfold World.cell? at hc0
      split at hc0
      · split at hc0
        · cases hc0
        · rename_i h5; simpa using h5
      · cases hc0
    obtain ⟨b, o, sp⟩ := a
    simp only at hsp hb
    subst hsp
    refine ⟨b, o, rfl, hb, fun i hi' => ?_⟩
    obtain ⟨cs', h1, h2⟩ := hl2 i hi'
    refine ⟨cs', fun j u hu => ?_, h2⟩
    obtain ⟨_, hlen', hc'⟩ := World.cells?_some h1
    have hj : j < P.cellsOf e := by
      have := (List.getElem?_eq_some_iff.1 hu).1
      omega
    have := hc' j hj
    rw [hu, Go.Deep.add_add, hs] at this
    rw [← this]
    congr 1
    unfold Addr.add
    split
    · rename_i h6; simp_all
    · simp [Nat.add_assoc]

end
end
section
open Go.RowKit

def ok64 (n : Int) : Prop := -9223372036854775808 ≤ n ∧ n ≤ 9223372036854775807
def Inst.cells (x : Inst) : List Value := [.int .i64 x.op, .int .i64 x.la, .int .i64 x.ln, .int .i64 x.ra, .int .i64 x.rn, .int .i64 x.n, .int .i64 x.u]
def Inst.ok (x : Inst) : Prop := ok64 x.op ∧ ok64 x.la ∧ ok64 x.ln ∧ ok64 x.ra ∧ ok64 x.rn ∧ ok64 x.n ∧ ok64 x.u
def instR : Rep Inst where
  size := 7
  at_ := fun _ _ cs x => cs = x.cells ∧ x.ok
  len := fun h => by rw [h.1]; rfl
  keep := fun h _ => h
  mono := fun h _ => h

structure Item where
  op : Int
  ln : ByteArray
  lv : Int
  rn : ByteArray
  rv : Int
  name : ByteArray
  user : ByteArray
  line : Int
  col : Int
def Item.cells (x : Item) : List Value := [.int .i64 x.op, .string x.ln, .int .i64 x.lv, .string x.rn, .int .i64 x.rv, .string x.name, .string x.user, .int .i64 x.line, .int .i64 x.col]
def Item.ok (x : Item) : Prop := ok64 x.op ∧ ok64 x.lv ∧ ok64 x.rv ∧ ok64 x.line ∧ ok64 x.col ∧ x.ln.size ≤ 9223372036854775807 ∧ x.rn.size ≤ 9223372036854775807 ∧ x.name.size ≤ 9223372036854775807 ∧ x.user.size ≤ 9223372036854775807
def itemR : Rep Item where
  size := 9
  at_ := fun _ _ cs x => cs = x.cells ∧ x.ok
  len := fun h => by rw [h.1]; rfl
  keep := fun h _ => h
  mono := fun h _ => h

/-- the cells of one thing in a slice of things that are plain cells -/
theorem plain_at {α : Type} {r : Rep α} {cells : α → List Value} {ok : α → Prop} (hr : ∀ w S cs x, r.at_ w S cs x → cs = cells x ∧ ok x) {w : World} {S : Nat → Prop} {b o c n : Nat} {l : List α} (h : (sliceR r).one w S (.slice (some ⟨b, o, none⟩) n c) l) {k : Nat} (hk : k < l.length) :
    (∀ j u, (cells l[k])[j]? = some u → w.cell? ⟨b, o + k * r.size + j, none⟩ = some u) ∧ ok l[k] := by
  obtain ⟨b', o', e, _, hrow⟩ := slice_some h (by omega)
  simp at e
  obtain ⟨rfl, rfl⟩ := e
  obtain ⟨cs, h1, h2⟩ := hrow k hk
  obtain ⟨rfl, h3⟩ := hr _ _ _ _ h2
  exact ⟨h1, h3⟩
theorem items_at {w : World} {S : Nat → Prop} {b o c n : Nat} {l : List Item} (h : (sliceR itemR).one w S (.slice (some ⟨b, o, none⟩) n c) l) {k : Nat} (hk : k < l.length) :
    (∀ j u, (l[k].cells)[j]? = some u → w.cell? ⟨b, o + k * 9 + j, none⟩ = some u) ∧ l[k].ok := plain_at (r := itemR) (cells := Item.cells) (ok := Item.ok) (fun _ _ _ _ h => h) h hk
end
section
open Go.RowKit Go.ChangeShapes Go.WideShapes Go.Deep

/-- the fields from an offset on open into r -/
def OpensF {α : Type} (P : Program) (fs : List Field) (off : Nat) (r : Rep α) : Prop := ∀ (H : Type) (enc : TypeId × Value → H) (w : World) (fuel : Nat) (cs : List Value),
  off + r.size ≤ cs.length → (∀ (i : Nat) (f : Field), fs[i]? = some f → ∃ x, DataW.trod enc P w 0 (fun _ => true) true fuel f.type ((cs.drop f.offset).take (P.cellsOf f.type)) = some x) →
  ∃ a, r.at_ w (fun b => b < w.heap.size) ((cs.drop off).take r.size) a
theorem opensF_nil (P : Program) (off : Nat) : OpensF P [] off nilR := fun _ _ _ _ _ _ _ => ⟨(), by simp [nilR]⟩
theorem opensF_cons {α β : Type} {P : Program} {f : Field} {fs : List Field} {off : Nat} {r : Rep α} {s : Rep β} (ho : f.offset = off) (hc : P.cellsOf f.type = r.size) (h1 : Opens P f.type r) (h2 : OpensF P fs (off + r.size) s) : OpensF P (f :: fs) off (pairR r s) := by
  intro H enc w fuel cs hl hf
  have hlr : off + (r.size + s.size) ≤ cs.length := hl
  obtain ⟨x, hx⟩ := hf 0 f rfl
  obtain ⟨a, ha⟩ := h1 H enc w fuel _ _ hx
  obtain ⟨b, hb⟩ := h2 H enc w fuel cs (by omega) (fun i g hg => hf (i + 1) g (by simpa using hg))
  refine ⟨(a, b), _, _, ?_, ha, hb⟩
  rw [ho, hc]
  show List.take (r.size + s.size) (cs.drop off) = _
  rw [List.take_add, List.drop_drop]
theorem opens_struct {α : Type} {P : Program} {t : TypeId} {fs : Array Field} {r : Rep α} (ht : P.underlying t = some (.struct fs)) (hc : P.cellsOf t = r.size) (ho : OpensF P fs.toList 0 r) : Opens P t r := by
  intro H enc w fuel cs x hx
  obtain ⟨xs, n, _, _, hl, hlen, hf⟩ := DataW.trod_struct ht hx
  obtain ⟨a, ha⟩ := ho H enc w n cs (by omega) (fun i f hfi => by
    have hfi' : fs[i]? = some f := by simpa using hfi
    have h1 := hf i f hfi'
    have hi : i < xs.length := by rw [hlen]; exact (Array.getElem?_eq_some_iff.1 hfi').1
    exact ⟨xs[i], by rw [h1, List.getElem?_eq_getElem hi]⟩)
  refine ⟨a, ?_⟩
  rwa [List.drop_zero, List.take_of_length_le (by omega)] at ha
theorem opens_string {P : Program} {t : TypeId} (h : P.underlying t = some .string) : Opens P t strR := by
  intro H enc w fuel cs x hx
  obtain ⟨s, rfl, _, hs⟩ := DataW.trod_string h hx
  exact ⟨s, rfl, by simpa [maxLen] using hs⟩
theorem opens_map {α β : Type} {P : Program} {t : TypeId} {r : Rep α} {s : Rep β} (h : Opens P t r) (f : α → β) (hf : ∀ w S cs a, r.at_ w S cs a → s.at_ w S cs (f a)) : Opens P t s := by
  intro H enc w fuel cs x hx
  obtain ⟨a, ha⟩ := h H enc w fuel cs x hx
  exact ⟨f a, hf _ _ _ _ ha⟩
theorem okWide_struct {P : Program} {W : World} {r : Reach} {b : Nat} {t : TypeId} {fs : Array Field} {v : Value} (ht : P.underlying t = some (.struct fs)) (h : Value.okWide P W r b t v) : ∃ cs, v = .agg cs ∧ cs.size = P.cellsOf t := by
  simp only [Value.okWide, ht] at h
  obtain ⟨cs, h1, h2, _⟩ := h
  exact ⟨cs, h1, h2⟩
theorem pair_inv {α β : Type} {r : Rep α} {s : Rep β} {w : World} {S : Nat → Prop} {cs : List Value} {p : α × β} (h : (pairR r s).at_ w S cs p) : ∃ c1 c2, cs = c1 ++ c2 ∧ r.at_ w S c1 p.1 ∧ s.at_ w S c2 p.2 := h
/-- one cell is one cell -/
theorem one_inv {α : Type} {r : Rep α} {w : World} {S : Nat → Prop} {cs : List Value} {a : α} (hr : r.size = 1) (h : r.at_ w S cs a) : ∃ v, cs = [v] ∧ r.one w S v a := by
  have := r.len h
  rw [hr] at this
  match cs, this with
  | [v], _ => exact ⟨v, rfl, h⟩
end
section
open Go.RowKit

structure Gd where
  stage : Int
  event : Int
  cond : List Inst
structure Ml where
  name : ByteArray
  stage : Int
  event : Int
  cond : List Inst
  final : Bool
structure Ev where
  name : ByteArray
  role : Int
  stage : Int
  sets : List Int
  times : Int
structure Mod where
  attrs : List ByteArray
  inits : List Int
  users : List ByteArray
  roles : List (ByteArray × Int)
  stages : List (ByteArray × Int)
  events : List Ev
  guards : List Gd
  miles : List Ml
  sods : List (Int × Int)
  order : List (Bool × Int)
def strOk (s : ByteArray) : Prop := s.size ≤ 9223372036854775807
def nameIntR : Rep (ByteArray × Int) where
  size := 2
  at_ := fun _ _ cs x => cs = [.string x.1, .int .i64 x.2] ∧ strOk x.1 ∧ ok64 x.2
  len := fun h => by rw [h.1]; rfl
  keep := fun h _ => h
  mono := fun h _ => h
def intIntR : Rep (Int × Int) where
  size := 2
  at_ := fun _ _ cs x => cs = [.int .i64 x.1, .int .i64 x.2] ∧ ok64 x.1 ∧ ok64 x.2
  len := fun h => by rw [h.1]; rfl
  keep := fun h _ => h
  mono := fun h _ => h
def sentryR : Rep (Bool × Int) where
  size := 2
  at_ := fun _ _ cs x => cs = [.bool x.1, .int .i64 x.2] ∧ ok64 x.2
  len := fun h => by rw [h.1]; rfl
  keep := fun h _ => h
  mono := fun h _ => h
def gdR : Rep Gd where
  size := 3
  at_ := fun w S cs g => ∃ cv, cs = [.int .i64 g.stage, .int .i64 g.event, cv] ∧ (sliceR instR).one w S cv g.cond ∧ ok64 g.stage ∧ ok64 g.event
  len := fun ⟨_, h, _⟩ => by rw [h]; rfl
  keep := fun ⟨cv, h, h2, h3⟩ hk => ⟨cv, h, slice_keep h2 hk, h3⟩
  mono := fun ⟨cv, h, h2, h3⟩ hB => ⟨cv, h, slice_mono h2 hB, h3⟩
def mlR : Rep Ml where
  size := 5
  at_ := fun w S cs g => ∃ cv, cs = [.string g.name, .int .i64 g.stage, .int .i64 g.event, cv, .bool g.final] ∧ (sliceR instR).one w S cv g.cond ∧ ok64 g.stage ∧ ok64 g.event ∧ strOk g.name
  len := fun ⟨_, h, _⟩ => by rw [h]; rfl
  keep := fun ⟨cv, h, h2, h3⟩ hk => ⟨cv, h, slice_keep h2 hk, h3⟩
  mono := fun ⟨cv, h, h2, h3⟩ hB => ⟨cv, h, slice_mono h2 hB, h3⟩
def evR : Rep Ev where
  size := 5
  at_ := fun w S cs g => ∃ cv, cs = [.string g.name, .int .i64 g.role, .int .i64 g.stage, cv, .int .i64 g.times] ∧ (sliceR (intR .i64)).one w S cv g.sets ∧ ok64 g.role ∧ ok64 g.stage ∧ ok64 g.times ∧ strOk g.name
  len := fun ⟨_, h, _⟩ => by rw [h]; rfl
  keep := fun ⟨cv, h, h2, h3⟩ hk => ⟨cv, h, slice_keep h2 hk, h3⟩
  mono := fun ⟨cv, h, h2, h3⟩ hB => ⟨cv, h, slice_mono h2 hB, h3⟩

/-- a slice whose things lie anywhere in memory -/
def SI {α : Type} (r : Rep α) (w : World) (v : Value) (l : List α) : Prop := (sliceR r).one w (fun b => b < w.heap.size) v l
theorem SI.below {α : Type} {r : Rep α} {w w' : World} {v : Value} {l : List α} (h : SI r w v l) (hb : Below w.heap.size w w') : SI r w' v l := slice_mono (slice_below h hb fun b h => h) fun b h => Nat.lt_of_lt_of_le h hb.size
theorem SI.mk {α : Type} {r : Rep α} {w : World} {S : Nat → Prop} {v : Value} {l : List α} (h : (sliceR r).one w S v l) (hS : ∀ b, S b → b < w.heap.size) : SI r w v l := slice_mono h hS
theorem SI.form {α : Type} {r : Rep α} {w : World} {v : Value} {l : List α} (h : SI r w v l) : ∃ A c, v = .slice A l.length c ∧ l.length ≤ c ∧ c ≤ 9223372036854775807 := slice_form h
/-- the values of a model's ten lists -/
structure MV where
  attrs : Value
  inits : Value
  users : Value
  roles : Value
  stages : Value
  events : Value
  guards : Value
  miles : Value
  sods : Value
  order : Value
abbrev MV.cells (V : MV) : Array Value := #[V.attrs, V.inits, V.users, V.roles, V.stages, V.events, V.guards, V.miles, V.sods, V.order]
structure ModI (w : World) (V : MV) (m : Mod) : Prop where
  attrs : SI strR w V.attrs m.attrs
  inits : SI (intR .i64) w V.inits m.inits
  users : SI strR w V.users m.users
  roles : SI nameIntR w V.roles m.roles
  stages : SI nameIntR w V.stages m.stages
  events : SI evR w V.events m.events
  guards : SI gdR w V.guards m.guards
  miles : SI mlR w V.miles m.miles
  sods : SI intIntR w V.sods m.sods
  order : SI sentryR w V.order m.order
theorem ModI.below {w w' : World} {V : MV} {m : Mod} (h : ModI w V m) (hb : Below w.heap.size w w') : ModI w' V m :=
  ⟨h.attrs.below hb, h.inits.below hb, h.users.below hb, h.roles.below hb, h.stages.below hb, h.events.below hb, h.guards.below hb, h.miles.below hb, h.sods.below hb, h.order.below hb⟩
end
section
open Go.RowKit

theorem ret_i64 {a b : Int} (h : a = b) : Ending.returned (.int .i64 a) = .returned (.int .i64 b) := by rw [h]
theorem arity_any (op : Int) (w : World) : Calls Tryz.prog 13 #[.int .i64 op] w fun e w' => e = .returned (.int .i64 (arity op)) ∧ w = w' := by
  have key : (1 ≤ op ∧ op ≤ 14) ∨ op = 15 ∨ (19 ≤ op ∧ op ≤ 24) ∨ (16 ≤ op ∧ op ≤ 18) ∨ op = 25 ∨ op = 26 ∨ op < 1 ∨ 26 < op := by omega
  rcases key with ⟨h1, h2⟩ | rfl | ⟨h1, h2⟩ | ⟨h1, h2⟩ | rfl | rfl | h1 | h1
  all_goals
    go_enter Tryz.func13, Tryz.ntmps13
    go_wp2
    all_goals go_ret
    all_goals refine ⟨ret_i64 ?_, rfl⟩
    all_goals (unfold arity; (repeat' split) <;> first | rfl | omega)
end
section
open Go.RowKit
abbrev eInst (x : Inst) : List AV := [eI x.op, eI x.la, eI x.ln, eI x.ra, eI x.rn, eI x.n, eI x.u]
abbrev sInsts (l : List Inst) : AV := .sl 7 (l.map eInst)
abbrev eGd (g : Gd) : List AV := [eI g.stage, eI g.event, sInsts g.cond]
abbrev eMl (g : Ml) : List AV := [eS g.name, eI g.stage, eI g.event, sInsts g.cond, eB g.final]
abbrev eEv (g : Ev) : List AV := [eS g.name, eI g.role, eI g.stage, sI g.sets, eI g.times]
abbrev eNI (p : ByteArray × Int) : List AV := [eS p.1, eI p.2]
abbrev eII (p : Int × Int) : List AV := [eI p.1, eI p.2]
abbrev eBI (p : Bool × Int) : List AV := [eB p.1, eI p.2]
abbrev eMod (m : Mod) : List AV := [.sl 1 (m.attrs.map fun s => [eS s]), sI m.inits, .sl 1 (m.users.map fun s => [eS s]), .sl 2 (m.roles.map eNI), .sl 2 (m.stages.map eNI), .sl 5 (m.events.map eEv), .sl 3 (m.guards.map eGd), .sl 5 (m.miles.map eMl), .sl 2 (m.sods.map eII), .sl 2 (m.order.map eBI)]
theorem mixedT : Tryz.prog.follows .mixedOrders = true := by kernel_rfl

def greatS (m : Mod) : Prop := m.guards.length ≤ 14 ∧ m.miles.length ≤ 10 ∧ m.stages.length ≤ 10 ∧ m.events.length ≤ 10 ∧ m.attrs.length ≤ 10 ∧ m.users.length ≤ 10 ∧ m.roles.length ≤ 10 ∧ m.sods.length ≤ 10 ∧ m.order.length ≤ 40 ∧ m.inits.length ≤ 10
/-- a model that is not too much -/
structure Fit (m : Mod) : Prop where
  sizes : greatS m
  guards : ∀ g ∈ m.guards, g.cond.length ≤ 80
  miles : ∀ g ∈ m.miles, g.cond.length ≤ 80
  events : ∀ g ∈ m.events, g.sets.length ≤ 10
set_option maxRecDepth 100000 in
set_option maxHeartbeats 4000000 in
theorem great12_A (m : Mod) : ARel Tryz.prog 4 [.agg (eMod m)] fun R => ∃ b, R = val (.bool b) ∧ (b = false → Fit m) := by
  refine arel_of_code mixedT Tryz.func4 rfl (by decide) Tryz.ntmps4 Tryz.results4 rfl ?_
  (repeat' (first | simp (maxSteps := 5000000) (implicitDefEqProofs := false) only [ruA, ruB, aEv, aTake, aLoad, aField, aIndex, aLen, aBin, bin2, aUn, un1, aExtract, aConv, ASt.get, aget, ASt.put, aStore, aBox, aAppend, aBuildSlice, aMake, aBuild, aFill, oneParts, allC, aBinS, yv, aCells, oneC, oneCL, treeC, treeL, treeML, treeM_c, treeM_sl, treeM_rp, treeM_any, treeM_fn, treeM_bfn, aLit, aDst, aSrc, appTab, Value.cells, Value.oneCell', envOf, aResL, aOne, ↓reduceIte, reduceCtorEq, forall_const, Nat.reduceLT, Nat.reduceEqDiff, Nat.reduceAdd, Nat.reduceMul, Nat.reduceSub, Nat.reduceLeDiff, Nat.reduceBEq, eq_self, implies_true, ne_eq, dref, dref1, dref2, aExecS, aStoreB, aTakes, aTakeE, aElder, aFrom, aFresh, isLoad, aBuildSlice1, frzs, frz1, ownIds, AV.frz, AV.frzL, frzEnv, AV.shift, AV.shiftL, aFieldV, aSliceW, aSliceO, aSlice, aSliceR, aSliceS, aBd, aMax, frzAVs, frzAV, frzTab, AObj.frz, aMM, aNilS, aMay, aNil, aLenM, aClear, aLookup, aLookG, aMapUpd, aMapPut, keyV, aLookR, false_or, aExecU, tyF_32_6, tyA_27, tyS_27, tyE_27, tyK_27, tyK_3, tyF_32_7, tyA_28, tyS_28, tyE_28, tyK_28, tyF_32_4, tyA_25, tyS_25, tyE_25, tyK_25, tyF_32_5, tyA_26, tyS_26, tyE_26, tyK_26, tyF_32_0, tyA_22, tyS_22, tyE_22, tyK_22, tyF_32_2, tyF_32_3, tyA_24, tyS_24, tyE_24, tyK_24, tyF_32_8, tyA_29, tyS_29, tyE_29, tyK_29, tyF_32_9, tyA_30, tyS_30, tyE_30, tyK_30, tyF_32_1, tyA_23, tyS_23, tyE_23, tyK_23, tyF_52_2, tyA_33, tyS_33, tyE_33, tyK_33, tyF_54_3, tyF_57_3, tyA_55, tyS_55, tyE_55, tyK_55] | (with_reducible refine aIf_split (fun _ => ?_) (fun _ => ?_)) | (with_reducible refine aSel_split (fun _ => ?_) (fun _ => ?_)) | (with_reducible refine aGd_split (fun _ => ?_) (fun _ => ?_))))
  all_goals first | with_reducible exact retV ⟨true, rfl, fun h => by cases h⟩ | skip
  have hS : greatS m := by simp_all [greatS]; omega
  obtain ⟨h1, h2, h3, h4, h5, h6, h7, h8, h9, h10⟩ := id hS
  refine aLoop_of (fun st => ∃ k : Nat, k ≤ m.guards.length ∧ (∀ i (h : i < m.guards.length), i < k → m.guards[i].cond.length ≤ 80) ∧ st = ⟨109, [(1, .op 0 0 0), (3, eI (k : Int))], [(0, some (.box 32 (eMod m)))], 1⟩) (fun st => m.guards.length - slotN st 3) ⟨_, (weak_cut1 (by (first | ((simp only [envIn, tabIn, envLt, tabLt, AObj.lt, AV.lt, AV.ltL, ruW, ASt.get, aget, ASt.put, ↓reduceIte, reduceCtorEq, Nat.reduceLT, Nat.reduceEqDiff, Nat.reduceAdd, Nat.reduceLeDiff, eq_self, implies_true]) <;> (repeat' apply And.intro) <;> first | (rw [wrapK (by omega)]; done) | (simp; done) | omega) | fail))), 0, Nat.zero_le _, ?_, rfl⟩ ?_
  · exact fun i h h2 => absurd h2 (by omega)
  rintro _ ⟨k, hk, hg, rfl⟩
  by_cases hlt : k < m.guards.length
  · (repeat' (first | simp (maxSteps := 5000000) (implicitDefEqProofs := false) only [ruA, ruB, aEv, aTake, aLoad, aField, aIndex, aLen, aBin, bin2, aUn, un1, aExtract, aConv, ASt.get, aget, ASt.put, aStore, aBox, aAppend, aBuildSlice, aMake, aBuild, aFill, oneParts, allC, aBinS, yv, aCells, oneC, oneCL, treeC, treeL, treeML, treeM_c, treeM_sl, treeM_rp, treeM_any, treeM_fn, treeM_bfn, aLit, aDst, aSrc, appTab, Value.cells, Value.oneCell', envOf, aResL, aOne, ↓reduceIte, reduceCtorEq, forall_const, Nat.reduceLT, Nat.reduceEqDiff, Nat.reduceAdd, Nat.reduceMul, Nat.reduceSub, Nat.reduceLeDiff, Nat.reduceBEq, eq_self, implies_true, ne_eq, dref, dref1, dref2, aExecS, aStoreB, aTakes, aTakeE, aElder, aFrom, aFresh, isLoad, aBuildSlice1, frzs, frz1, ownIds, AV.frz, AV.frzL, frzEnv, AV.shift, AV.shiftL, aFieldV, aSliceW, aSliceO, aSlice, aSliceR, aSliceS, aBd, aMax, frzAVs, frzAV, frzTab, AObj.frz, aMM, aNilS, aMay, aNil, aLenM, aClear, aLookup, aLookG, aMapUpd, aMapPut, keyV, aLookR, false_or, aExecU, tyF_32_6, tyA_27, tyS_27, tyE_27, tyK_27, tyK_3, tyF_32_7, tyA_28, tyS_28, tyE_28, tyK_28, tyF_32_4, tyA_25, tyS_25, tyE_25, tyK_25, tyF_32_5, tyA_26, tyS_26, tyE_26, tyK_26, tyF_32_0, tyA_22, tyS_22, tyE_22, tyK_22, tyF_32_2, tyF_32_3, tyA_24, tyS_24, tyE_24, tyK_24, tyF_32_8, tyA_29, tyS_29, tyE_29, tyK_29, tyF_32_9, tyA_30, tyS_30, tyE_30, tyK_30, tyF_32_1, tyA_23, tyS_23, tyE_23, tyK_23, tyF_52_2, tyA_33, tyS_33, tyE_33, tyK_33, tyF_54_3, tyF_57_3, tyA_55, tyS_55, tyE_55, tyK_55, row_at, hlt] | (with_reducible refine aIf_split (fun _ => ?_) (fun _ => ?_)) | (with_reducible refine aSel_split (fun _ => ?_) (fun _ => ?_)) | (with_reducible refine aGd_split (fun _ => ?_) (fun _ => ?_))))
    · with_reducible exact retV ⟨true, rfl, fun h => by cases h⟩
    · rename_i hc
      refine roundI (weak_cut1 (by (first | ((simp only [envIn, tabIn, envLt, tabLt, AObj.lt, AV.lt, AV.ltL, ruW, ASt.get, aget, ASt.put, ↓reduceIte, reduceCtorEq, Nat.reduceLT, Nat.reduceEqDiff, Nat.reduceAdd, Nat.reduceLeDiff, eq_self, implies_true]) <;> (repeat' apply And.intro) <;> first | (rw [wrapK (by omega)]; done) | (simp; done) | omega) | fail))) ⟨k + 1, by omega, fun i h h2 => ?_, rfl⟩ (by simp only [slotN, ruW, ASt.get, aget, ASt.put, ↓reduceIte, reduceCtorEq, Nat.reduceLT, Nat.reduceEqDiff, Nat.reduceAdd, Nat.reduceLeDiff, eq_self, implies_true]; omega)
      rcases Nat.lt_or_ge i k with h3 | h3
      · exact hg i h h3
      · obtain rfl : i = k := by omega
        simp at hc
        omega
  simp (maxSteps := 5000000) (implicitDefEqProofs := false) only [ruA, ruB, aEv, aTake, aLoad, aField, aIndex, aLen, aBin, bin2, aUn, un1, aExtract, aConv, ASt.get, aget, ASt.put, aStore, aBox, aAppend, aBuildSlice, aMake, aBuild, aFill, oneParts, allC, aBinS, yv, aCells, oneC, oneCL, treeC, treeL, treeML, treeM_c, treeM_sl, treeM_rp, treeM_any, treeM_fn, treeM_bfn, aLit, aDst, aSrc, appTab, Value.cells, Value.oneCell', envOf, aResL, aOne, ↓reduceIte, reduceCtorEq, forall_const, Nat.reduceLT, Nat.reduceEqDiff, Nat.reduceAdd, Nat.reduceMul, Nat.reduceSub, Nat.reduceLeDiff, Nat.reduceBEq, eq_self, implies_true, ne_eq, dref, dref1, dref2, aExecS, aStoreB, aTakes, aTakeE, aElder, aFrom, aFresh, isLoad, aBuildSlice1, frzs, frz1, ownIds, AV.frz, AV.frzL, frzEnv, AV.shift, AV.shiftL, aFieldV, aSliceW, aSliceO, aSlice, aSliceR, aSliceS, aBd, aMax, frzAVs, frzAV, frzTab, AObj.frz, aMM, aNilS, aMay, aNil, aLenM, aClear, aLookup, aLookG, aMapUpd, aMapPut, keyV, aLookR, false_or, aExecU, tyF_32_6, tyA_27, tyS_27, tyE_27, tyK_27, tyK_3, tyF_32_7, tyA_28, tyS_28, tyE_28, tyK_28, tyF_32_4, tyA_25, tyS_25, tyE_25, tyK_25, tyF_32_5, tyA_26, tyS_26, tyE_26, tyK_26, tyF_32_0, tyA_22, tyS_22, tyE_22, tyK_22, tyF_32_2, tyF_32_3, tyA_24, tyS_24, tyE_24, tyK_24, tyF_32_8, tyA_29, tyS_29, tyE_29, tyK_29, tyF_32_9, tyA_30, tyS_30, tyE_30, tyK_30, tyF_32_1, tyA_23, tyS_23, tyE_23, tyK_23, tyF_52_2, tyA_33, tyS_33, tyE_33, tyK_33, tyF_54_3, tyF_57_3, tyA_55, tyS_55, tyE_55, tyK_55, row_at, hlt]
  refine aLoop_of (fun st => ∃ q : Nat, q ≤ m.miles.length ∧ (∀ i (h : i < m.miles.length), i < q → m.miles[i].cond.length ≤ 80) ∧ st = ⟨109, [(1, .op 0 0 0), (4, eI (q : Int))], [(0, some (.box 32 (eMod m)))], 1⟩) (fun st => m.miles.length - slotN st 4) ⟨_, (weak_cut1 (by (first | ((simp only [envIn, tabIn, envLt, tabLt, AObj.lt, AV.lt, AV.ltL, ruW, ASt.get, aget, ASt.put, ↓reduceIte, reduceCtorEq, Nat.reduceLT, Nat.reduceEqDiff, Nat.reduceAdd, Nat.reduceLeDiff, eq_self, implies_true]) <;> (repeat' apply And.intro) <;> first | (rw [wrapK (by omega)]; done) | (simp; done) | omega) | fail))), 0, Nat.zero_le _, ?_, rfl⟩ ?_
  · exact fun i h h2 => absurd h2 (by omega)
  rintro _ ⟨q, hq, hm, rfl⟩
  by_cases hlt2 : q < m.miles.length
  · (repeat' (first | simp (maxSteps := 5000000) (implicitDefEqProofs := false) only [ruA, ruB, aEv, aTake, aLoad, aField, aIndex, aLen, aBin, bin2, aUn, un1, aExtract, aConv, ASt.get, aget, ASt.put, aStore, aBox, aAppend, aBuildSlice, aMake, aBuild, aFill, oneParts, allC, aBinS, yv, aCells, oneC, oneCL, treeC, treeL, treeML, treeM_c, treeM_sl, treeM_rp, treeM_any, treeM_fn, treeM_bfn, aLit, aDst, aSrc, appTab, Value.cells, Value.oneCell', envOf, aResL, aOne, ↓reduceIte, reduceCtorEq, forall_const, Nat.reduceLT, Nat.reduceEqDiff, Nat.reduceAdd, Nat.reduceMul, Nat.reduceSub, Nat.reduceLeDiff, Nat.reduceBEq, eq_self, implies_true, ne_eq, dref, dref1, dref2, aExecS, aStoreB, aTakes, aTakeE, aElder, aFrom, aFresh, isLoad, aBuildSlice1, frzs, frz1, ownIds, AV.frz, AV.frzL, frzEnv, AV.shift, AV.shiftL, aFieldV, aSliceW, aSliceO, aSlice, aSliceR, aSliceS, aBd, aMax, frzAVs, frzAV, frzTab, AObj.frz, aMM, aNilS, aMay, aNil, aLenM, aClear, aLookup, aLookG, aMapUpd, aMapPut, keyV, aLookR, false_or, aExecU, tyF_32_6, tyA_27, tyS_27, tyE_27, tyK_27, tyK_3, tyF_32_7, tyA_28, tyS_28, tyE_28, tyK_28, tyF_32_4, tyA_25, tyS_25, tyE_25, tyK_25, tyF_32_5, tyA_26, tyS_26, tyE_26, tyK_26, tyF_32_0, tyA_22, tyS_22, tyE_22, tyK_22, tyF_32_2, tyF_32_3, tyA_24, tyS_24, tyE_24, tyK_24, tyF_32_8, tyA_29, tyS_29, tyE_29, tyK_29, tyF_32_9, tyA_30, tyS_30, tyE_30, tyK_30, tyF_32_1, tyA_23, tyS_23, tyE_23, tyK_23, tyF_52_2, tyA_33, tyS_33, tyE_33, tyK_33, tyF_54_3, tyF_57_3, tyA_55, tyS_55, tyE_55, tyK_55, row_at, hlt2] | (with_reducible refine aIf_split (fun _ => ?_) (fun _ => ?_)) | (with_reducible refine aSel_split (fun _ => ?_) (fun _ => ?_)) | (with_reducible refine aGd_split (fun _ => ?_) (fun _ => ?_))))
    · with_reducible exact retV ⟨true, rfl, fun h => by cases h⟩
    · rename_i hc
      refine roundI (weak_cut1 (by (first | ((simp only [envIn, tabIn, envLt, tabLt, AObj.lt, AV.lt, AV.ltL, ruW, ASt.get, aget, ASt.put, ↓reduceIte, reduceCtorEq, Nat.reduceLT, Nat.reduceEqDiff, Nat.reduceAdd, Nat.reduceLeDiff, eq_self, implies_true]) <;> (repeat' apply And.intro) <;> first | (rw [wrapK (by omega)]; done) | (simp; done) | omega) | fail))) ⟨q + 1, by omega, fun i h h2 => ?_, rfl⟩ (by simp only [slotN, ruW, ASt.get, aget, ASt.put, ↓reduceIte, reduceCtorEq, Nat.reduceLT, Nat.reduceEqDiff, Nat.reduceAdd, Nat.reduceLeDiff, eq_self, implies_true]; omega)
      rcases Nat.lt_or_ge i q with h3 | h3
      · exact hm i h h3
      · obtain rfl : i = q := by omega
        simp at hc
        omega
  simp (maxSteps := 5000000) (implicitDefEqProofs := false) only [ruA, ruB, aEv, aTake, aLoad, aField, aIndex, aLen, aBin, bin2, aUn, un1, aExtract, aConv, ASt.get, aget, ASt.put, aStore, aBox, aAppend, aBuildSlice, aMake, aBuild, aFill, oneParts, allC, aBinS, yv, aCells, oneC, oneCL, treeC, treeL, treeML, treeM_c, treeM_sl, treeM_rp, treeM_any, treeM_fn, treeM_bfn, aLit, aDst, aSrc, appTab, Value.cells, Value.oneCell', envOf, aResL, aOne, ↓reduceIte, reduceCtorEq, forall_const, Nat.reduceLT, Nat.reduceEqDiff, Nat.reduceAdd, Nat.reduceMul, Nat.reduceSub, Nat.reduceLeDiff, Nat.reduceBEq, eq_self, implies_true, ne_eq, dref, dref1, dref2, aExecS, aStoreB, aTakes, aTakeE, aElder, aFrom, aFresh, isLoad, aBuildSlice1, frzs, frz1, ownIds, AV.frz, AV.frzL, frzEnv, AV.shift, AV.shiftL, aFieldV, aSliceW, aSliceO, aSlice, aSliceR, aSliceS, aBd, aMax, frzAVs, frzAV, frzTab, AObj.frz, aMM, aNilS, aMay, aNil, aLenM, aClear, aLookup, aLookG, aMapUpd, aMapPut, keyV, aLookR, false_or, aExecU, tyF_32_6, tyA_27, tyS_27, tyE_27, tyK_27, tyK_3, tyF_32_7, tyA_28, tyS_28, tyE_28, tyK_28, tyF_32_4, tyA_25, tyS_25, tyE_25, tyK_25, tyF_32_5, tyA_26, tyS_26, tyE_26, tyK_26, tyF_32_0, tyA_22, tyS_22, tyE_22, tyK_22, tyF_32_2, tyF_32_3, tyA_24, tyS_24, tyE_24, tyK_24, tyF_32_8, tyA_29, tyS_29, tyE_29, tyK_29, tyF_32_9, tyA_30, tyS_30, tyE_30, tyK_30, tyF_32_1, tyA_23, tyS_23, tyE_23, tyK_23, tyF_52_2, tyA_33, tyS_33, tyE_33, tyK_33, tyF_54_3, tyF_57_3, tyA_55, tyS_55, tyE_55, tyK_55, row_at, hlt2]
  refine aLoop_of (fun st => ∃ r : Nat, r ≤ m.events.length ∧ (∀ i (h : i < m.events.length), i < r → m.events[i].sets.length ≤ 10) ∧ st = ⟨109, [(1, .op 0 0 0), (5, eI (r : Int))], [(0, some (.box 32 (eMod m)))], 1⟩) (fun st => m.events.length - slotN st 5) ⟨_, (weak_cut1 (by (first | ((simp only [envIn, tabIn, envLt, tabLt, AObj.lt, AV.lt, AV.ltL, ruW, ASt.get, aget, ASt.put, ↓reduceIte, reduceCtorEq, Nat.reduceLT, Nat.reduceEqDiff, Nat.reduceAdd, Nat.reduceLeDiff, eq_self, implies_true]) <;> (repeat' apply And.intro) <;> first | (rw [wrapK (by omega)]; done) | (simp; done) | omega) | fail))), 0, Nat.zero_le _, ?_, rfl⟩ ?_
  · exact fun i h h2 => absurd h2 (by omega)
  rintro _ ⟨r, hr, he, rfl⟩
  by_cases hlt3 : r < m.events.length
  · (repeat' (first | simp (maxSteps := 5000000) (implicitDefEqProofs := false) only [ruA, ruB, aEv, aTake, aLoad, aField, aIndex, aLen, aBin, bin2, aUn, un1, aExtract, aConv, ASt.get, aget, ASt.put, aStore, aBox, aAppend, aBuildSlice, aMake, aBuild, aFill, oneParts, allC, aBinS, yv, aCells, oneC, oneCL, treeC, treeL, treeML, treeM_c, treeM_sl, treeM_rp, treeM_any, treeM_fn, treeM_bfn, aLit, aDst, aSrc, appTab, Value.cells, Value.oneCell', envOf, aResL, aOne, ↓reduceIte, reduceCtorEq, forall_const, Nat.reduceLT, Nat.reduceEqDiff, Nat.reduceAdd, Nat.reduceMul, Nat.reduceSub, Nat.reduceLeDiff, Nat.reduceBEq, eq_self, implies_true, ne_eq, dref, dref1, dref2, aExecS, aStoreB, aTakes, aTakeE, aElder, aFrom, aFresh, isLoad, aBuildSlice1, frzs, frz1, ownIds, AV.frz, AV.frzL, frzEnv, AV.shift, AV.shiftL, aFieldV, aSliceW, aSliceO, aSlice, aSliceR, aSliceS, aBd, aMax, frzAVs, frzAV, frzTab, AObj.frz, aMM, aNilS, aMay, aNil, aLenM, aClear, aLookup, aLookG, aMapUpd, aMapPut, keyV, aLookR, false_or, aExecU, tyF_32_6, tyA_27, tyS_27, tyE_27, tyK_27, tyK_3, tyF_32_7, tyA_28, tyS_28, tyE_28, tyK_28, tyF_32_4, tyA_25, tyS_25, tyE_25, tyK_25, tyF_32_5, tyA_26, tyS_26, tyE_26, tyK_26, tyF_32_0, tyA_22, tyS_22, tyE_22, tyK_22, tyF_32_2, tyF_32_3, tyA_24, tyS_24, tyE_24, tyK_24, tyF_32_8, tyA_29, tyS_29, tyE_29, tyK_29, tyF_32_9, tyA_30, tyS_30, tyE_30, tyK_30, tyF_32_1, tyA_23, tyS_23, tyE_23, tyK_23, tyF_52_2, tyA_33, tyS_33, tyE_33, tyK_33, tyF_54_3, tyF_57_3, tyA_55, tyS_55, tyE_55, tyK_55, row_at, hlt3] | (with_reducible refine aIf_split (fun _ => ?_) (fun _ => ?_)) | (with_reducible refine aSel_split (fun _ => ?_) (fun _ => ?_)) | (with_reducible refine aGd_split (fun _ => ?_) (fun _ => ?_))))
    · with_reducible exact retV ⟨true, rfl, fun h => by cases h⟩
    · rename_i hc
      refine roundI (weak_cut1 (by (first | ((simp only [envIn, tabIn, envLt, tabLt, AObj.lt, AV.lt, AV.ltL, ruW, ASt.get, aget, ASt.put, ↓reduceIte, reduceCtorEq, Nat.reduceLT, Nat.reduceEqDiff, Nat.reduceAdd, Nat.reduceLeDiff, eq_self, implies_true]) <;> (repeat' apply And.intro) <;> first | (rw [wrapK (by omega)]; done) | (simp; done) | omega) | fail))) ⟨r + 1, by omega, fun i h h2 => ?_, rfl⟩ (by simp only [slotN, ruW, ASt.get, aget, ASt.put, ↓reduceIte, reduceCtorEq, Nat.reduceLT, Nat.reduceEqDiff, Nat.reduceAdd, Nat.reduceLeDiff, eq_self, implies_true]; omega)
      rcases Nat.lt_or_ge i r with h3 | h3
      · exact he i h h3
      · obtain rfl : i = r := by omega
        simp at hc
        omega
  simp (maxSteps := 5000000) (implicitDefEqProofs := false) only [ruA, ruB, aEv, aTake, aLoad, aField, aIndex, aLen, aBin, bin2, aUn, un1, aExtract, aConv, ASt.get, aget, ASt.put, aStore, aBox, aAppend, aBuildSlice, aMake, aBuild, aFill, oneParts, allC, aBinS, yv, aCells, oneC, oneCL, treeC, treeL, treeML, treeM_c, treeM_sl, treeM_rp, treeM_any, treeM_fn, treeM_bfn, aLit, aDst, aSrc, appTab, Value.cells, Value.oneCell', envOf, aResL, aOne, ↓reduceIte, reduceCtorEq, forall_const, Nat.reduceLT, Nat.reduceEqDiff, Nat.reduceAdd, Nat.reduceMul, Nat.reduceSub, Nat.reduceLeDiff, Nat.reduceBEq, eq_self, implies_true, ne_eq, dref, dref1, dref2, aExecS, aStoreB, aTakes, aTakeE, aElder, aFrom, aFresh, isLoad, aBuildSlice1, frzs, frz1, ownIds, AV.frz, AV.frzL, frzEnv, AV.shift, AV.shiftL, aFieldV, aSliceW, aSliceO, aSlice, aSliceR, aSliceS, aBd, aMax, frzAVs, frzAV, frzTab, AObj.frz, aMM, aNilS, aMay, aNil, aLenM, aClear, aLookup, aLookG, aMapUpd, aMapPut, keyV, aLookR, false_or, aExecU, tyF_32_6, tyA_27, tyS_27, tyE_27, tyK_27, tyK_3, tyF_32_7, tyA_28, tyS_28, tyE_28, tyK_28, tyF_32_4, tyA_25, tyS_25, tyE_25, tyK_25, tyF_32_5, tyA_26, tyS_26, tyE_26, tyK_26, tyF_32_0, tyA_22, tyS_22, tyE_22, tyK_22, tyF_32_2, tyF_32_3, tyA_24, tyS_24, tyE_24, tyK_24, tyF_32_8, tyA_29, tyS_29, tyE_29, tyK_29, tyF_32_9, tyA_30, tyS_30, tyE_30, tyK_30, tyF_32_1, tyA_23, tyS_23, tyE_23, tyK_23, tyF_52_2, tyA_33, tyS_33, tyE_33, tyK_33, tyF_54_3, tyF_57_3, tyA_55, tyS_55, tyE_55, tyK_55, row_at, hlt3]
  refine retV ⟨false, rfl, fun _ => ⟨hS, fun g hg' => ?_, fun g hg' => ?_, fun g hg' => ?_⟩⟩
  · obtain ⟨i, hi, rfl⟩ := List.getElem_of_mem hg'
    exact hg i hi (by omega)
  · obtain ⟨i, hi, rfl⟩ := List.getElem_of_mem hg'
    exact hm i hi (by omega)
  · obtain ⟨i, hi, rfl⟩ := List.getElem_of_mem hg'
    exact he i hi (by omega)
end
section
open Go.RowKit

theorem opensInt : Opens Tryz.prog 3 (intR .i64) := opens_int Tryz.underlying3
theorem opensI64 : Opens Tryz.prog 2 (intR .i64) := opens_int Tryz.underlying2
def valR : Rep (Int × Int × Unit) := pairR (intR .i64) (pairR (intR .i64) nilR)
theorem opensVal : Opens Tryz.prog 44 valR :=
  opens_struct Tryz.underlying44 (by kernel_rfl) (opensF_cons (by kernel_rfl) (by kernel_rfl) opensInt (opensF_cons (by kernel_rfl) (by kernel_rfl) opensI64 (opensF_nil _ _)))
def instP : Rep (Int × (Int × Int × Unit) × (Int × Int × Unit) × Int × Int × Unit) := pairR (intR .i64) (pairR valR (pairR valR (pairR (intR .i64) (pairR (intR .i64) nilR))))
theorem opensInstP : Opens Tryz.prog 46 instP :=
  opens_struct Tryz.underlying46 (by kernel_rfl) (opensF_cons (by kernel_rfl) (by kernel_rfl) opensInt (opensF_cons (by kernel_rfl) (by kernel_rfl) opensVal (opensF_cons (by kernel_rfl) (by kernel_rfl) opensVal (opensF_cons (by kernel_rfl) (by kernel_rfl) opensInt (opensF_cons (by kernel_rfl) (by kernel_rfl) opensInt (opensF_nil _ _))))))
theorem opensInst : Opens Tryz.prog 46 instR := opens_map opensInstP (fun p => ⟨p.1, p.2.1.1, p.2.1.2.1, p.2.2.1.1, p.2.2.1.2.1, p.2.2.2.1, p.2.2.2.2.1⟩) (by
  rintro w S cs ⟨op, ⟨la, ln, _⟩, ⟨ra, rn, _⟩, n, u, _⟩ h
  obtain ⟨c0, q0, e0, ⟨a0, h0⟩, h'⟩ := pair_inv h
  obtain ⟨c1, q1, e1, h1, h''⟩ := pair_inv h'
  obtain ⟨c2, q2, e2, h2, h3⟩ := pair_inv h''
  obtain ⟨c3, q3, e3, ⟨a3, h3'⟩, h4⟩ := pair_inv h3
  obtain ⟨c4, q4, e4, ⟨a4, h4'⟩, h5⟩ := pair_inv h4
  have h5 : q4 = [] := h5
  obtain ⟨d0, k0, f0, ⟨b0, g0⟩, m0⟩ := pair_inv h1
  obtain ⟨d1, k1, f1, ⟨b1, g1⟩, m1⟩ := pair_inv m0
  have m1 : k1 = [] := m1
  obtain ⟨d2, k2, f2, ⟨b2, g2⟩, m2⟩ := pair_inv h2
  obtain ⟨d3, k3, f3, ⟨b3, g3⟩, m3⟩ := pair_inv m2
  have m3 : k3 = [] := m3
  refine ⟨?_, wf_i64 h0, wf_i64 g0, wf_i64 g1, wf_i64 g2, wf_i64 g3, wf_i64 h3', wf_i64 h4'⟩
  rw [e0, e1, e2, e3, e4, h5, a0, f0, f1, m1, b0, b1, f2, f3, m3, b2, b3, a3, a4]
  rfl)
theorem opensInsts : Opens Tryz.prog 33 (sliceR instR) := opens_slice Tryz.underlying33 (by kernel_rfl) (by decide) opensInst
theorem opensIntsE : Opens Tryz.prog 55 (sliceR (intR .i64)) := opens_slice Tryz.underlying55 (by kernel_rfl) (by decide) opensInt
end
section
open Go.RowKit

theorem opensStr : Opens Tryz.prog 9 strR := opens_string Tryz.underlying9
theorem opensBoolM : Opens Tryz.prog 4 boolR := opens_bool Tryz.underlying4
theorem opensNameInt {t : TypeId} (h : Opens Tryz.prog t (pairR strR (pairR (intR .i64) nilR))) : Opens Tryz.prog t nameIntR := opens_map h (fun p => (p.1, p.2.1)) (by
  rintro w S cs ⟨s, n, _⟩ h
  obtain ⟨c0, q0, e0, ⟨a0, h0⟩, h⟩ := pair_inv h
  obtain ⟨c1, q1, e1, ⟨a1, h1⟩, h⟩ := pair_inv h
  have h : q1 = [] := h
  exact ⟨by rw [e0, e1, a0, a1, h]; rfl, h0, wf_i64 h1⟩)
theorem opensStage : Opens Tryz.prog 215 nameIntR := opensNameInt (opens_struct Tryz.underlying215 (by kernel_rfl) (opensF_cons (by kernel_rfl) (by kernel_rfl) opensStr (opensF_cons (by kernel_rfl) (by kernel_rfl) opensInt (opensF_nil _ _))))
theorem opensRole : Opens Tryz.prog 170 nameIntR := opensNameInt (opens_struct Tryz.underlying170 (by kernel_rfl) (opensF_cons (by kernel_rfl) (by kernel_rfl) opensStr (opensF_cons (by kernel_rfl) (by kernel_rfl) opensInt (opensF_nil _ _))))
theorem opensSod : Opens Tryz.prog 174 intIntR := opens_map (r := pairR (intR .i64) (pairR (intR .i64) nilR)) (opens_struct Tryz.underlying174 (by kernel_rfl) (opensF_cons (by kernel_rfl) (by kernel_rfl) opensInt (opensF_cons (by kernel_rfl) (by kernel_rfl) opensInt (opensF_nil _ _)))) (fun p => (p.1, p.2.1)) (by
  rintro w S cs ⟨s, n, _⟩ h
  obtain ⟨c0, q0, e0, ⟨a0, h0⟩, h⟩ := pair_inv h
  obtain ⟨c1, q1, e1, ⟨a1, h1⟩, h⟩ := pair_inv h
  have h : q1 = [] := h
  exact ⟨by rw [e0, e1, a0, a1, h]; rfl, wf_i64 h0, wf_i64 h1⟩)
theorem opensSentry : Opens Tryz.prog 217 sentryR := opens_map (r := pairR boolR (pairR (intR .i64) nilR)) (opens_struct Tryz.underlying217 (by kernel_rfl) (opensF_cons (by kernel_rfl) (by kernel_rfl) opensBoolM (opensF_cons (by kernel_rfl) (by kernel_rfl) opensInt (opensF_nil _ _)))) (fun p => (p.1, p.2.1)) (by
  rintro w S cs ⟨s, n, _⟩ h
  obtain ⟨c0, q0, e0, a0, h⟩ := pair_inv h
  have a0 : c0 = [.bool s] := a0
  obtain ⟨c1, q1, e1, ⟨a1, h1⟩, h⟩ := pair_inv h
  have h : q1 = [] := h
  exact ⟨by rw [e0, e1, a0, a1, h]; rfl, wf_i64 h1⟩)
theorem opensGuard : Opens Tryz.prog 52 gdR := opens_map (r := pairR (intR .i64) (pairR (intR .i64) (pairR (sliceR instR) nilR))) (opens_struct Tryz.underlying52 (by kernel_rfl) (opensF_cons (by kernel_rfl) (by kernel_rfl) opensInt (opensF_cons (by kernel_rfl) (by kernel_rfl) opensInt (opensF_cons (by kernel_rfl) (by kernel_rfl) opensInsts (opensF_nil _ _))))) (fun p => ⟨p.1, p.2.1, p.2.2.1⟩) (by
  rintro w S cs ⟨s, n, l, _⟩ h
  obtain ⟨c0, q0, e0, ⟨a0, h0⟩, h⟩ := pair_inv h
  obtain ⟨c1, q1, e1, ⟨a1, h1⟩, h⟩ := pair_inv h
  obtain ⟨c2, q2, e2, h2, h⟩ := pair_inv h
  have h : q2 = [] := h
  obtain ⟨cv, rfl, h2⟩ := one_inv (r := sliceR instR) rfl h2
  exact ⟨cv, by rw [e0, e1, e2, a0, a1, h]; rfl, h2, wf_i64 h0, wf_i64 h1⟩)
theorem opensMile : Opens Tryz.prog 54 mlR := opens_map (r := pairR strR (pairR (intR .i64) (pairR (intR .i64) (pairR (sliceR instR) (pairR boolR nilR))))) (opens_struct Tryz.underlying54 (by kernel_rfl) (opensF_cons (by kernel_rfl) (by kernel_rfl) opensStr (opensF_cons (by kernel_rfl) (by kernel_rfl) opensInt (opensF_cons (by kernel_rfl) (by kernel_rfl) opensInt (opensF_cons (by kernel_rfl) (by kernel_rfl) opensInsts (opensF_cons (by kernel_rfl) (by kernel_rfl) opensBoolM (opensF_nil _ _))))))) (fun p => ⟨p.1, p.2.1, p.2.2.1, p.2.2.2.1, p.2.2.2.2.1⟩) (by
  rintro w S cs ⟨nm, s, n, l, b, _⟩ h
  obtain ⟨c9, q9, e9, ⟨a9, h9⟩, h⟩ := pair_inv h
  obtain ⟨c0, q0, e0, ⟨a0, h0⟩, h⟩ := pair_inv h
  obtain ⟨c1, q1, e1, ⟨a1, h1⟩, h⟩ := pair_inv h
  obtain ⟨c2, q2, e2, h2, h⟩ := pair_inv h
  obtain ⟨c3, q3, e3, a3, h⟩ := pair_inv h
  have a3 : c3 = [.bool b] := a3
  have h : q3 = [] := h
  obtain ⟨cv, rfl, h2⟩ := one_inv (r := sliceR instR) rfl h2
  exact ⟨cv, by rw [e9, e0, e1, e2, e3, a9, a0, a1, a3, h]; rfl, h2, wf_i64 h0, wf_i64 h1, h9⟩)
theorem opensEvent : Opens Tryz.prog 57 evR := opens_map (r := pairR strR (pairR (intR .i64) (pairR (intR .i64) (pairR (sliceR (intR .i64)) (pairR (intR .i64) nilR))))) (opens_struct Tryz.underlying57 (by kernel_rfl) (opensF_cons (by kernel_rfl) (by kernel_rfl) opensStr (opensF_cons (by kernel_rfl) (by kernel_rfl) opensInt (opensF_cons (by kernel_rfl) (by kernel_rfl) opensInt (opensF_cons (by kernel_rfl) (by kernel_rfl) opensIntsE (opensF_cons (by kernel_rfl) (by kernel_rfl) opensInt (opensF_nil _ _))))))) (fun p => ⟨p.1, p.2.1, p.2.2.1, p.2.2.2.1, p.2.2.2.2.1⟩) (by
  rintro w S cs ⟨nm, s, n, l, b, _⟩ h
  obtain ⟨c9, q9, e9, ⟨a9, h9⟩, h⟩ := pair_inv h
  obtain ⟨c0, q0, e0, ⟨a0, h0⟩, h⟩ := pair_inv h
  obtain ⟨c1, q1, e1, ⟨a1, h1⟩, h⟩ := pair_inv h
  obtain ⟨c2, q2, e2, h2, h⟩ := pair_inv h
  obtain ⟨c3, q3, e3, ⟨a3, h3⟩, h⟩ := pair_inv h
  have h : q3 = [] := h
  obtain ⟨cv, rfl, h2⟩ := one_inv (r := sliceR (intR .i64)) rfl h2
  exact ⟨cv, by rw [e9, e0, e1, e2, e3, a9, a0, a1, a3, h]; rfl, h2, wf_i64 h0, wf_i64 h1, wf_i64 h3, h9⟩)
abbrev modP := pairR (sliceR strR) (pairR (sliceR (intR .i64)) (pairR (sliceR strR) (pairR (sliceR nameIntR) (pairR (sliceR nameIntR) (pairR (sliceR evR) (pairR (sliceR gdR) (pairR (sliceR mlR) (pairR (sliceR intIntR) (pairR (sliceR sentryR) nilR)))))))))
set_option maxRecDepth 100000 in
theorem opensModP : Opens Tryz.prog 32 modP := opens_struct Tryz.underlying32 (by kernel_rfl) (opensF_cons (by kernel_rfl) (by kernel_rfl) (opens_slice Tryz.underlying22 (by kernel_rfl) (by decide) opensStr) (opensF_cons (by kernel_rfl) (by kernel_rfl) (opens_slice Tryz.underlying23 (by kernel_rfl) (by decide) opensI64) (opensF_cons (by kernel_rfl) (by kernel_rfl) (opens_slice Tryz.underlying22 (by kernel_rfl) (by decide) opensStr) (opensF_cons (by kernel_rfl) (by kernel_rfl) (opens_slice Tryz.underlying24 (by kernel_rfl) (by decide) opensRole) (opensF_cons (by kernel_rfl) (by kernel_rfl) (opens_slice Tryz.underlying25 (by kernel_rfl) (by decide) opensStage) (opensF_cons (by kernel_rfl) (by kernel_rfl) (opens_slice Tryz.underlying26 (by kernel_rfl) (by decide) opensEvent) (opensF_cons (by kernel_rfl) (by kernel_rfl) (opens_slice Tryz.underlying27 (by kernel_rfl) (by decide) opensGuard) (opensF_cons (by kernel_rfl) (by kernel_rfl) (opens_slice Tryz.underlying28 (by kernel_rfl) (by decide) opensMile) (opensF_cons (by kernel_rfl) (by kernel_rfl) (opens_slice Tryz.underlying29 (by kernel_rfl) (by decide) opensSod) (opensF_cons (by kernel_rfl) (by kernel_rfl) (opens_slice Tryz.underlying30 (by kernel_rfl) (by decide) opensSentry) (opensF_nil _ _)))))))))))
theorem open_mod {H : Type} {enc : TypeId × Value → H} {w : World} {fuel : Nat} {cs : Array Value} {x : DataW H × List MemPlace} (h : DataW.trod enc Tryz.prog w 0 (fun _ => true) true fuel 32 cs.toList = some x) :
    ∃ (V : MV) (m : Mod), cs = V.cells ∧ ModI w V m := by
  obtain ⟨⟨attrs, inits, users, roles, stages, events, guards, miles, sods, order, _⟩, h⟩ := opensModP H enc w fuel _ _ h
  obtain ⟨c0, q0, e0, h0, h⟩ := pair_inv h
  obtain ⟨c1, q1, e1, h1, h⟩ := pair_inv h
  obtain ⟨c2, q2, e2, h2, h⟩ := pair_inv h
  obtain ⟨c3, q3, e3, h3, h⟩ := pair_inv h
  obtain ⟨c4, q4, e4, h4, h⟩ := pair_inv h
  obtain ⟨c5, q5, e5, h5, h⟩ := pair_inv h
  obtain ⟨c6, q6, e6, h6, h⟩ := pair_inv h
  obtain ⟨c7, q7, e7, h7, h⟩ := pair_inv h
  obtain ⟨c8, q8, e8, h8, h⟩ := pair_inv h
  obtain ⟨c9, q9, e9, h9, h⟩ := pair_inv h
  obtain rfl : q9 = [] := h
  obtain ⟨v0, rfl, h0⟩ := one_inv (r := sliceR strR) rfl h0
  obtain ⟨v1, rfl, h1⟩ := one_inv (r := sliceR (intR .i64)) rfl h1
  obtain ⟨v2, rfl, h2⟩ := one_inv (r := sliceR strR) rfl h2
  obtain ⟨v3, rfl, h3⟩ := one_inv (r := sliceR nameIntR) rfl h3
  obtain ⟨v4, rfl, h4⟩ := one_inv (r := sliceR nameIntR) rfl h4
  obtain ⟨v5, rfl, h5⟩ := one_inv (r := sliceR evR) rfl h5
  obtain ⟨v6, rfl, h6⟩ := one_inv (r := sliceR gdR) rfl h6
  obtain ⟨v7, rfl, h7⟩ := one_inv (r := sliceR mlR) rfl h7
  obtain ⟨v8, rfl, h8⟩ := one_inv (r := sliceR intIntR) rfl h8
  obtain ⟨v9, rfl, h9⟩ := one_inv (r := sliceR sentryR) rfl h9
  refine ⟨⟨v0, v1, v2, v3, v4, v5, v6, v7, v8, v9⟩, ⟨attrs, inits, users, roles, stages, events, guards, miles, sods, order⟩, ?_, ⟨h0, h1, h2, h3, h4, h5, h6, h7, h8, h9⟩⟩
  apply Array.ext'
  rw [e0, e1, e2, e3, e4, e5, e6, e7, e8, e9]
  rfl
end
end Go.Proofs.YtbijbnfgccdneaaGreat
