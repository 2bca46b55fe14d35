/-
  Parts of the proof: AlI, AlJ0, AlJ, AlK, AlR, AlU, AlV, AlX, WR, WP, AlTy, EvSpec, Rep, EvRep, Struct, Mod.
-/
import Derived.Test.YtodbhccfajgekaaDoorSrd3
import Derived.RangeFuncLeaves
import Derived.RangeFuncRecord
import Derived.Laws.StructEq
import Derived.TacticsIn
import Derived.RangeFuncIn
import Derived.RangeFuncCalls
import Derived.Shelf.Strconv.Itoa3
import Derived.Test.YtodbhccfajgekaaDoorProg
import Derived.WalkKit
import Derived.WalkLawsBesides
import Derived.ProofKit
import Derived.OpenShut
import Derived.Deep.Slices
set_option linter.unusedVariables false
set_option linter.unusedSimpArgs false
namespace Go.Proofs.YtodbhccfajgekaaDoor
section
open Go.RowKit

mutual
/-- objects named anew: k by the k-th of a list -/
def AV.ren (l : List Nat) : AV → AV
  | .osl id => .osl (l.getD id 0)
  | .op id i j => .op (l.getD id 0) i j
  | .agg cs => .agg (AV.renL l cs)
  | .tup cs => .tup (AV.renL l cs)
  | .fn f cs => .fn f (AV.renL l cs)
  | .any => .any
  | .c v => .c v
  | .sl sz rows => .sl sz rows
  | .rp cs => .rp cs
def AV.renL (l : List Nat) : List AV → List AV
  | [] => []
  | a :: l2 => a.ren l :: AV.renL l l2
end
theorem renL_map (l : List Nat) : ∀ l2 : List AV, AV.renL l l2 = l2.map (·.ren l)
  | [] => rfl
  | a :: l2 => by simp [AV.renL, renL_map l l2]
/-- what is given back: the objects that it names are slices of the call's own -/
def aTabs (st : ASt) (ren : List Nat) : ATab → Prop
  | [] => True
  | (k, o) :: T => (k < ren.length ∧ (∃ e sz rows, o = some (.row e sz rows)) ∧ st.tab.get (ren.getD k 0) = o) ∧ aTabs st ren T
def aGives (R : Res) (st : ASt) (av : AV) : Prop := ∃ ren : List Nat, ren.Nodup ∧ R.r.ren ren = av ∧ aTabs st ren R.tab
def aResL (P : Program) (st : ASt) : List ResultVar → (List AV → Prop) → Prop
  | [], K => K []
  | .tmp t :: l, K => aResL P st l fun avs => K (st.get t :: avs)
  | .cell p ty :: l, K => aLoad P ty st.tab (st.get p) fun av => aResL P st l fun avs => K (av :: avs)
def aOne : List AV → AV
  | [x] => x
  | l => .tup l
def aRetR (P : Program) (rs : List ResultVar) (Post : Res → Prop) : Exit → ASt → Prop
  | .normal, st => aResL P st rs fun avs => ∃ R, Post R ∧ R.Ok ∧ aGives R st (aOne avs)
  | .ret, st => aResL P st rs fun avs => ∃ R, Post R ∧ R.Ok ∧ aGives R st (aOne avs)
  | _, _ => False
def aRet (P : Program) (rs : List ResultVar) (R : Res) : Exit → ASt → Prop
  | .normal, st => aResL P st rs fun avs => aGives R st (aOne avs)
  | .ret, st => aResL P st rs fun avs => aGives R st (aOne avs)
  | _, _ => False
theorem aRet_n {P : Program} {rs : List ResultVar} {R : Res} {st : ASt} : aRet P rs R .normal st = aResL P st rs fun avs => aGives R st (aOne avs) := rfl
theorem aRet_r {P : Program} {rs : List ResultVar} {R : Res} {st : ASt} : aRet P rs R .ret st = aResL P st rs fun avs => aGives R st (aOne avs) := rfl
theorem aRetR_n {P : Program} {rs : List ResultVar} {Post : Res → Prop} {st : ASt} : aRetR P rs Post .normal st = aResL P st rs fun avs => ∃ R, Post R ∧ R.Ok ∧ aGives R st (aOne avs) := rfl
theorem aRetR_r {P : Program} {rs : List ResultVar} {Post : Res → Prop} {st : ASt} : aRetR P rs Post .ret st = aResL P st rs fun avs => ∃ R, Post R ∧ R.Ok ∧ aGives R st (aOne avs) := rfl
def envOf : Nat → List AV → List (Nat × AV)
  | _, [] => []
  | k, a :: l => (k, a) :: envOf (k + 1) l
theorem aget_envOf : ∀ (l : List AV) (k t : Nat), aget (envOf k l) t = if k ≤ t then l.getD (t - k) .any else .any
  | [], k, t => by simp [envOf, aget]
  | a :: l, k, t => by
    simp only [envOf, aget]
    rw [aget_envOf l (k + 1) t]
    by_cases h : t = k
    · subst h
      simp
    · rw [if_neg h]
      by_cases h2 : k ≤ t
      · rw [if_pos (by omega), if_pos h2, show t - k = (t - (k + 1)) + 1 by omega]
        simp
      · rw [if_neg (by omega), if_neg h2]

section
variable {P : Program} {cx : Cx} {a : Act} {w w' : World} {tab : ATab} {st : ASt} {L : Nat → Value} {nx : Nat}
theorem tabs_get {ren : List Nat} : ∀ {T : ATab} {k : Nat} {o : AObj}, aTabs st ren T → T.get k = some o → k < ren.length ∧ (∃ e sz rows, o = .row e sz rows) ∧ st.tab.get (ren.getD k 0) = some o
  | [], k, o, _, h => by cases h
  | (j, oo) :: T, k, o, hp, h => by
    rw [ATab.get_cons] at h
    split at h
    · rename_i e
      subst e
      subst h
      obtain ⟨h1, ⟨e, sz, rows, h2⟩, h3⟩ := hp.1
      cases h2
      exact ⟨h1, ⟨e, sz, rows, rfl⟩, h3⟩
    · exact tabs_get hp.2 h
theorem asAddr_of_load {t : TypeId} {v u : Value} (h : (Instr.loadAt t v).run P w = .ok u w) : (do loadVar t (← asAddr v) : Sem Value).run P w = .ok u w := by
  cases v with
  | pointer p =>
    cases p with
    | none => simp [Instr.loadAt, Instr.sureAddr, Sem.run_bind] at h
    | some ad => simpa [Instr.loadAt, Instr.sureAddr, asAddr, Sem.run_bind] using h
  | _ => simp [Instr.loadAt, Instr.sureAddr, Sem.run_bind] at h
def resVar (tmps : Array Value) : ResultVar → Sem Value
  | .tmp t => pure (tmps.getD t undef)
  | .cell p t => do loadVar t (← asAddr (tmps.getD p undef))
theorem results_eq (fn : Func) (tmps : Array Value) : results fn tmps = (do
    let vs ← fn.results.mapM (resVar tmps)
    pure (if h : vs.size = 1 then vs[0] else .tuple vs)) := by
  unfold results
  congr 1
theorem resL_ok (h : Conc cx a w st L) : ∀ (l : List ResultVar) (K : List AV → Prop), aResL P st l K →
    ∃ vs avs, K avs ∧ vs.length = avs.length ∧ (∀ (j : Nat) (v : Value) (av : AV), vs[j]? = some v → avs[j]? = some av → RVx cx w st.tab L v av) ∧
      (l.mapM (resVar a.tmps) : Sem (List Value)).run P w = .ok vs w
  | [], K, hp => ⟨[], [], hp, rfl, by simp, by simp⟩
  | .tmp t :: l, K, hp => by
    obtain ⟨vs, avs, h1, h2, h3, h4⟩ := resL_ok h l _ hp
    refine ⟨a.tmps.getD t undef :: vs, st.get t :: avs, h1, by simp [h2], fun j v av h5 h6 => ?_, ?_⟩
    · cases j with
      | zero =>
        cases h5
        cases h6
        exact (h.env t).1
      | succ j => exact h3 j v av (by simpa using h5) (by simpa using h6)
    · simp only [List.mapM_cons, resVar, Sem.run_bind, Sem.run_pure, Result.andThen_ok, h4]
  | .cell p ty :: l, K, hp => by
    obtain ⟨u, au, h1, h2, h3, h4⟩ := (load_ok (nx := st.next) h.lay (fun id o hid => (h.young id o hid).2) (h.env p).1 hp).one
    obtain ⟨vs, avs, h5, h6, h7, h8⟩ := resL_ok h l _ h1
    refine ⟨u :: vs, au :: avs, h5, by simp [h6], fun j v av h9 h10 => ?_, ?_⟩
    · cases j with
      | zero =>
        cases h9
        cases h10
        exact h2
      | succ j => exact h7 j v av (by simpa using h9) (by simpa using h10)
    · have := asAddr_of_load (h4 w (Below.refl _ _))
      simp only [List.mapM_cons, resVar]
      rw [Sem.run_bind, this]
      simp only [Sem.run_bind, Sem.run_pure, Result.andThen_ok, h8]
theorem res_ok {fn : Func} {K : AV → Prop} (h : Conc cx a w st L) (hp : aResL P st fn.results.toList fun avs => K (aOne avs)) : ∃ v av, K av ∧ RVx cx w st.tab L v av ∧ (results fn a.tmps).run P w = .ok v w := by
  obtain ⟨vs, avs, h1, h2, h3, h4⟩ := resL_ok h _ _ hp
  have hm : (results fn a.tmps).run P w = .ok (if h : vs.toArray.size = 1 then vs.toArray[0] else .tuple vs.toArray) w := by
    rw [results_eq, Sem.run_bind, Array.mapM_eq_mapM_toList]
    simp only [bind_pure_comp, Sem.run_map, h4]
    rfl
  refine ⟨_, aOne avs, h1, ?_, hm⟩
  clear hm h4 h1
  match vs, avs, h2, h3 with
  | [v], [av], _, h3 => exact h3 0 v av rfl rfl
  | [], [], _, h3 => exact .tup _ _ rfl (by simp)
  | v :: v' :: vs, av :: av' :: avs, h2, h3 =>
    simp only [aOne, List.size_toArray, List.length_cons]
    rw [dif_neg (by omega)]
    exact .tup _ _ (by simpa using h2) fun j x av h4 h5 => h3 j x av (by simpa using h4) h5
mutual
theorem rv_ren {tab' : ATab} {L' : Nat → Value} {ren : List Nat} (hS : ∀ b, Sx cx w tab L b → Sx cx w tab' L' b) (hK : ∀ k p, Kx tab' L' k = some p → Kx tab L (ren.getD k 0) = some p) :
    ∀ (r : AV) (v : Value), RVx cx w tab L v (r.ren ren) → RVx cx w tab' L' v r
  | .any, v, _ => .tree (.any v)
  | .c x, v, h => by
    obtain rfl := RV.c_inv (v := x) h
    exact .tree (.c v)
  | .sl sz rows, v, h => .tree ((RV.sl_inv h).mono (fun _ _ => rfl) hS)
  | .osl id, v, h => .osl v id fun sz u hk => RV.osl_inv h sz u (hK id _ hk)
  | .agg cs, v, h => by
    simp only [AV.ren, renL_map] at h
    obtain ⟨xs, rfl, hn, hr⟩ := h.agg_inv
    exact .agg xs cs (by simpa using hn) fun j x av h1 h2 => rv_renL hS hK cs j x av h2 (hr j x _ h1 (by simp [h2]))
  | .tup cs, v, h => by
    simp only [AV.ren, renL_map] at h
    obtain ⟨xs, rfl, hn, hr⟩ := h.tup_inv
    exact .tup xs cs (by simpa using hn) fun j x av h1 h2 => rv_renL hS hK cs j x av h2 (hr j x _ h1 (by simp [h2]))
  | .fn f cs, v, h => by
    simp only [AV.ren, renL_map] at h
    obtain ⟨xs, rfl, hn, hr⟩ := h.fn_inv
    exact .fn f xs cs (by simpa using hn) fun j x av h1 h2 => rv_renL hS hK cs j x av h2 (hr j x _ h1 (by simp [h2]))
  | .rp cs, v, h => by
    have : RT w (Sx cx w tab L) v (.rp cs) := by
      cases h with
      | tree h => exact h
    exact .tree (this.mono (fun _ _ => rfl) hS)
  | .op id i j, v, h => .op v id i j fun sz u hk => RV.op_inv h sz u (hK id _ hk)
theorem rv_renL {tab' : ATab} {L' : Nat → Value} {ren : List Nat} (hS : ∀ b, Sx cx w tab L b → Sx cx w tab' L' b) (hK : ∀ k p, Kx tab' L' k = some p → Kx tab L (ren.getD k 0) = some p) :
    ∀ (l : List AV) (j : Nat) (v : Value) (av : AV), l[j]? = some av → RVx cx w tab L v (av.ren ren) → RVx cx w tab' L' v av
  | [], j, v, av, h, _ => by simp at h
  | a :: l, 0, v, av, h, hr => by
    simp at h
    subst h
    exact rv_ren hS hK a v hr
  | a :: l, j + 1, v, av, h, hr => rv_renL hS hK l j v av (by simpa using h) hr
end
end
/-! ### the end of loops over a function -/
/-- but for what is no cells all is as it was -/
structure KeepM (base : Nat) (w w' : World) : Prop where
  below : Below base w w'
  size : w'.heap.size = w.heap.size
  cell : ∀ p, w'.cell? p = w.cell? p
  cells : ∀ (k : Nat) cs t x, w.heap[k]? = some (Obj.cells cs t x) → w'.heap[k]? = some (Obj.cells cs t x)
theorem KeepM.refl (base : Nat) (w : World) : KeepM base w w := ⟨Below.refl _ _, rfl, fun _ => rfl, fun _ _ _ _ h => h⟩
theorem KeepM.trans {base : Nat} {w w' w'' : World} (h : KeepM base w w') (k : KeepM base w' w'') : KeepM base w w'' :=
  ⟨h.below.trans k.below, k.size.trans h.size, fun p => (k.cell p).trans (h.cell p), fun b cs t x hb => k.cells b cs t x (h.cells b cs t x hb)⟩
theorem KeepM.put {base k : Nat} {w : World} {o : Option (List Deferred)} (hk : base ≤ k) (h : w.heap[k]? = some (.deferred o)) (o' : Option (List Deferred)) : KeepM base w (w.putObj k (.deferred o')) := by
  have hother : ∀ j, j ≠ k → (w.putObj k (.deferred o')).heap[j]? = w.heap[j]? := fun j hj => World.putObj_heap_other hj
  have hlt : k < w.heap.size := (Array.getElem?_eq_some_iff.1 h).1
  refine ⟨⟨rfl, rfl, rfl, by simp, fun j hj => hother j (by omega)⟩, by simp, fun p => ?_, fun j cs t x hj => ?_⟩
  · by_cases e : p.block = k
    · have h1 : (w.putObj k (.deferred o')).heap[p.block]? = some (.deferred o') := by rw [e]; exact World.putObj_heap_same hlt
      have h2 : w.heap[p.block]? = some (.deferred o) := by rw [e]; exact h
      unfold World.cell?
      rw [h1, h2]
    · exact World.cell?_of_block (hother p.block e)
  · by_cases e : j = k
    · rw [e, h] at hj
      cases hj
    · rw [hother j e]
      exact hj
section
variable {cx : Cx} {a : Act} {w w' : World} {st : ASt} {L : Nat → Value}
theorem conc_keep (h : Conc cx a w st L) (hk : KeepM cx.w0.heap.size w w') {ds : List Deferred} (hm : Marks cx.w0.heap.size w' (Sx cx w' st.tab L) ds) : Conc cx { a with defers := ds } w' st L := by
  have hS : ∀ b, Sx cx w st.tab L b → Sx cx w' st.tab L b := fun b hb => ⟨by rw [hk.size]; exact hb.1, hb.2.1, hb.2.2⟩
  have hrv : ∀ {x av nx}, RVx cx w st.tab L x av → av.lt nx → RVx cx w' st.tab L x av := fun hr hl => hr.mono hl (fun p _ => hk.cell p) hS (fun _ _ _ h => h)
  refine ⟨⟨h.lay.below.trans (belowX hk.below), fun id o hid => ?_, h.lay.sep, fun b hb => ⟨by rw [hk.size]; exact (h.lay.ex b hb).1, (h.lay.ex b hb).2⟩⟩, h.size, hm, h.young, fun t => ⟨hrv (h.env t).1 (h.env t).2, (h.env t).2⟩⟩
  have ho := h.lay.objs id o hid
  have hy := (h.young id o hid).2
  cases o with
  | box t cells =>
    obtain ⟨g, cs, h1, h2, h3, h4, h5⟩ := ho
    exact ⟨g, cs, h1, h2, hk.cells _ _ _ _ h3, h4, fun j x av h6 h7 => ⟨hrv (h5 j x av h6 h7).1 (ltL_iff.1 hy _ (List.mem_of_getElem? h7)), (h5 j x av h6 h7).2⟩⟩
  | row e sz rows =>
    obtain ⟨h1, xs, hown, h2, h3⟩ := ho
    refine ⟨h1, xs, ⟨hown.1, ?_⟩, h2, fun i j row av ha hb => ?_⟩
    · rcases hown.2 with hn | ⟨g, cap, cur, h4, hb, hh, rest⟩
      · exact .inl hn
      · exact .inr ⟨g, cap, cur, h4, hb, hk.cells _ _ _ _ hh, rest⟩
    · obtain ⟨x, hx, hr⟩ := h3 i j row av ha hb
      exact ⟨x, hx, hr.mono (fun p _ => hk.cell p) hS⟩
end
theorem conc_keepM {cx : Cx} {a : Act} {w w' : World} {st : ASt} {L : Nat → Value} (h : Conc cx a w st L) (hk : KeepM cx.w0.heap.size w w') : Conc cx { a with defers := [] } w' st L := conc_keep h hk (Marks.nil _ _ _)
theorem leaves_marks {P : Program} {fn : Func} {tmps : Array Value} {R : Ending → World → Prop} {base : Nat} {S : Nat → Prop} : ∀ (ds : List Deferred) (w : World), Marks base w S ds → (∀ w', KeepM base w w' → LeavesIn Fence.wide 0 P fn tmps R [] .returning w') → LeavesInM Fence.wide 0 P fn tmps R ds .returning w
  | [], w, _, h => h w (KeepM.refl _ _)
  | d :: ds, w, hm, h => by
    obtain ⟨k, rfl, h1, h2, h3⟩ := hm.2 d (List.mem_cons_self ..)
    have hk := KeepM.put h1 h2 none
    refine ⟨by simp, .inl ⟨k, _, rfl, run_takeDeferred h2, leaves_marks (S := S) ds _ ⟨(List.nodup_cons.1 hm.1).2, fun d' hd' => ?_⟩ fun w' hw' => h w' (hk.trans hw')⟩⟩
    obtain ⟨k', rfl, h4, h5, h6⟩ := hm.2 d' (List.mem_cons_of_mem _ hd')
    refine ⟨k', rfl, h4, ?_, h6⟩
    have hne : k' ≠ k := fun e => (List.nodup_cons.1 hm.1).1 (by rw [← e]; exact hd')
    rw [World.putObj_heap_other hne]
    exact h5
/-- A FUNCTION's CONTRACT OUT OF ITS CODE. -/
theorem arel_of_wp {P : Program} {f : FuncId} {fn : Func} {c : Code} (hf : P.funcs[f]? = some fn) (hb : fn.body = some c) (hname : (fn.name == "runtime.NumGoroutine") = false) {args : List AV} {Post : Res → Prop} {n : Nat} (hnt : fn.ntmps = n) {rs : List ResultVar} (hrs : fn.results = rs.toArray) (hn : Nat.ble args.length n = true)
    (h : ∀ (cx : Cx) (a : Act) (w : World) (L : Nat → Value), Conc cx a w ⟨n, envOf 0 args, [], 0⟩ L → c.wp P (AfterC cx (aRetR P rs Post)) a w) : ARel P f args Post := by
  have hn := Nat.le_of_ble_eq_true hn
  subst hnt
  have hrs : fn.results.toList = rs := by rw [hrs]
  refine ⟨fun vs w => ?_, fun S w vs hS hvs hv => ?_⟩
  · have : ¬ fn.name = "runtime.NumGoroutine" := by simpa using hname
    simp [callFunc, Sem.run_bind, hf, this, hb]
  · let cx : Cx := (Cx.mk0 S w hS)
    refine (callsIn_wide (n := 0)).1 (callsIn_of_wp_marks hf hb trivial (wpIn_wide.2 ?_))
    have hL : Lay cx w [] (fun _ => undef) := ⟨belowX (Below.refl _ _), fun id o h => (by cases h), fun id id' o o' g h => (by cases h), fun b hb => hb.elim⟩
    have hC : Conc cx { tmps := vs ++ Array.replicate (fn.ntmps - vs.size) undef, defers := [] } w ⟨fn.ntmps, envOf 0 args, [], 0⟩ (fun _ => undef) := by
      refine ⟨hL, ?_, Marks.nil _ _ _, fun id o h => (by cases h), fun t => ?_⟩
      · simp
        omega
      have e : (⟨fn.ntmps, envOf 0 args, [], 0⟩ : ASt).get t = args.getD t .any := by
        show (if t < fn.ntmps then aget (envOf 0 args) t else .any) = _
        rw [aget_envOf]
        split
        · simp
        · simp [List.getD, List.getElem?_eq_none (show args.length ≤ t by omega)]
      rw [e]
      by_cases ht : t < args.length
      · have ht' : t < vs.size := by omega
        have e2 : (vs ++ Array.replicate (fn.ntmps - vs.size) undef).getD t undef = vs[t] := by
          rw [Array.getD_eq_getD_getElem?, Array.getElem?_append_left ht', Array.getElem?_eq_getElem ht']
          rfl
        have e3 : args.getD t .any = args[t] := by simp [List.getD, ht]
        rw [e2, e3]
        have := hv t _ _ (Array.getElem?_eq_getElem ht') (List.getElem?_eq_getElem ht)
        exact ⟨.tree (this.mono (fun _ _ => rfl) fun b hb => ⟨hS b hb, ⟨.inl hb, fun h => h⟩, fun id o h => by cases h⟩), this.lt 0⟩
      · have e3 : args.getD t .any = .any := by simp [List.getD, List.getElem?_eq_none (Nat.le_of_not_lt ht)]
        rw [e3]
        exact ⟨.tree (.any _), trivial⟩
    refine Code.wp_mono (fun e a w' ⟨st, L, h1, h2⟩ => ?_) (h cx _ w _ hC)
    rw [← hrs] at h1
    have key : (aResL P st fn.results.toList fun avs => ∃ R, Post R ∧ R.Ok ∧ aGives R st (aOne avs)) → LeavesInM Fence.wide 0 P fn a.tmps (fun e w' => ∃ v' L R, Post R ∧ R.Ok ∧ e = .returned v' ∧ Lay cx w' R.tab L ∧ RVx cx w' R.tab L v' R.r) a.defers .returning w' := fun h1 => by
      refine leaves_marks _ _ h2.defers fun w2 hk2 => ?_
      have h2 := conc_keepM h2 hk2
      clear hk2
      generalize w2 = w' at h2
      obtain ⟨v, av, ⟨R, hPost, hok, ren, hnd, hr, ht⟩, h4, h5⟩ := res_ok (K := fun av => ∃ R, Post R ∧ R.Ok ∧ aGives R st av) h2 h1
      refine ⟨v, h5, v, fun k => L (ren.getD k 0), R, hPost, hok, rfl, ?_⟩
      subst hr
      have hget := fun k o => tabs_get (st := st) (T := R.tab) (k := k) (o := o) ht
      have hsub : ∀ b, Sx cx w' st.tab L b → Sx cx w' R.tab (fun k => L (ren.getD k 0)) b := fun b hb => ⟨hb.1, hb.2.1, fun k o hk => hb.2.2 _ o (hget k o hk).2.2⟩
      refine ⟨⟨h2.lay.below, fun k o hk => ?_, fun k k' o o' g h6 h7 h8 h9 => ?_, fun b hb => hb.elim⟩, rv_ren hsub (fun k p hk => ?_) _ _ h4⟩
      · obtain ⟨h6, ⟨e, sz, rows, rfl⟩, h7⟩ := hget k o hk
        obtain ⟨h8, xs, h9, h10, h11⟩ := h2.lay.objs _ _ h7
        refine ⟨h8, xs, h9, h10, fun i j row av h12 h13 => ?_⟩
        obtain ⟨x, hx, hrt⟩ := h11 i j row av h12 h13
        exact ⟨x, hx, hrt.mono (fun _ _ => rfl) hsub⟩
      · obtain ⟨ha, _, hb⟩ := hget k o h6
        obtain ⟨ha', _, hb'⟩ := hget k' o' h7
        have := h2.lay.sep _ _ o o' g hb hb' h8 h9
        simp only [List.getD, List.getElem?_eq_getElem ha, List.getElem?_eq_getElem ha', Option.getD_some] at this
        have hp := List.pairwise_iff_getElem.1 hnd
        rcases Nat.lt_trichotomy k k' with hlt | he | hlt
        · exact absurd this (hp k k' ha ha' hlt)
        · exact he
        · exact absurd this.symm (hp k' k ha' ha hlt)
      · unfold Kx at *
        cases ho : R.tab.get k with
        | none => simp [ho] at hk
        | some o =>
          rw [(hget k o ho).2.2]
          simpa [ho] using hk
    cases e with
    | normal => exact key h1
    | ret => exact key h1
    | _ => exact h1.elim
theorem retL_mono {P : Program} {st : ASt} : ∀ {l : List ResultVar} {K K' : List AV → Prop}, (∀ avs, K avs → K' avs) → aResL P st l K → aResL P st l K'
  | [], K, K', h, hp => h _ hp
  | .tmp t :: l, K, K', h, hp => retL_mono (l := l) (fun avs h2 => h _ h2) hp
  | .cell p ty :: l, K, K', h, hp => by
    have step : ∀ av, (aResL P st l fun avs => K (av :: avs)) → aResL P st l fun avs => K' (av :: avs) := fun av => retL_mono (l := l) (fun avs h2 => h _ h2)
    have take : ∀ cs, aTake P ty cs (fun av => aResL P st l fun avs => K (av :: avs)) → aTake P ty cs (fun av => aResL P st l fun avs => K' (av :: avs)) := fun cs ⟨h1, h2, h3⟩ => ⟨h1, h2, by
      split at h3
      · rw [if_pos (by assumption)]; exact step _ h3
      · rw [if_neg (by assumption)]; exact step _ h3⟩
    unfold aResL aLoad at hp ⊢
    split at hp
    · exact take _ hp
    · split at hp
      · rename_i h0
        first | simp only [h0] | skip
        exact ⟨hp.1, take _ hp.2⟩
      · rename_i h0
        first | simp only [h0] | skip
        exact ⟨hp.1, take _ hp.2⟩
      · exact hp.elim
    · exact hp.elim
theorem aRet_R {P : Program} {rs : List ResultVar} {R : Res} (hok : R.Ok) (e : Exit) (st : ASt) (h : aRet P rs R e st) : aRetR P rs (fun R' => R' = R) e st := by
  cases e with
  | normal => exact retL_mono (fun avs h => ⟨R, rfl, hok, h⟩) h
  | ret => exact retL_mono (fun avs h => ⟨R, rfl, hok, h⟩) h
  | _ => exact h.elim
theorem adet_of_wp {P : Program} {f : FuncId} {fn : Func} {c : Code} (hf : P.funcs[f]? = some fn) (hb : fn.body = some c) (hname : (fn.name == "runtime.NumGoroutine") = false) {args : List AV} {R : Res} {n : Nat} (hnt : fn.ntmps = n) {rs : List ResultVar} (hrs : fn.results = rs.toArray) (hn : Nat.ble args.length n = true)
    (hok : R.Ok) (h : ∀ (cx : Cx) (a : Act) (w : World) (L : Nat → Value), Conc cx a w ⟨n, envOf 0 args, [], 0⟩ L → c.wp P (AfterC cx (aRet P rs R)) a w) : ADet P f args R :=
  arel_of_wp hf hb hname hnt hrs hn fun cx a w L hc => Code.wp_mono (fun e a w ⟨st, L, h1, h2⟩ => ⟨st, L, aRet_R hok e st h1, h2⟩) (h cx a w L hc)
theorem arel_of_code {P : Program} (hm : P.follows .mixedOrders = true) {f : FuncId} {fn : Func} {c : Code} (hf : P.funcs[f]? = some fn) (hb : fn.body = some c) (hname : (fn.name == "runtime.NumGoroutine") = false) {args : List AV} {Post : Res → Prop} {n : Nat} (hnt : fn.ntmps = n) {rs : List ResultVar} (hrs : fn.results = rs.toArray) (hn : Nat.ble args.length n = true)
    (h : aCode P c (aRetR P rs Post) ⟨n, envOf 0 args, [], 0⟩) : ARel P f args Post :=
  arel_of_wp hf hb hname hnt hrs hn fun cx a w L hc => code_ok hm c _ a w _ L hc h
theorem adet_of_code {P : Program} (hm : P.follows .mixedOrders = true) {f : FuncId} {fn : Func} {c : Code} (hf : P.funcs[f]? = some fn) (hb : fn.body = some c) (hname : (fn.name == "runtime.NumGoroutine") = false) {args : List AV} {R : Res} {n : Nat} (hnt : fn.ntmps = n) {rs : List ResultVar} (hrs : fn.results = rs.toArray) (hn : Nat.ble args.length n = true)
    (hok : R.Ok) (h : aCode P c (aRet P rs R) ⟨n, envOf 0 args, [], 0⟩) : ADet P f args R :=
  adet_of_wp hf hb hname hnt hrs hn hok fun cx a w L hc => code_ok hm c _ a w _ L hc h
end
section
open Go.RowKit

def envIn (st : ASt) : List (Nat × AV) → Prop
  | [] => True
  | (t, av) :: l => st.get t = av ∧ envIn st l
def tabIn (st : ASt) : ATab → Prop
  | [] => True
  | (id, o) :: l => st.tab.get id = o ∧ tabIn st l
def envLt (nx : Nat) : List (Nat × AV) → Prop
  | [] => True
  | (_, av) :: l => av.lt nx ∧ envLt nx l
def tabLt (nx : Nat) : ATab → Prop
  | [] => True
  | (id, some o) :: l => (id < nx ∧ o.lt nx) ∧ tabLt nx l
  | (_, none) :: l => tabLt nx l
theorem envIn_get {st : ASt} {nx : Nat} : ∀ {l : List (Nat × AV)} (t : Nat), envIn st l → envLt nx l → (aget l t = st.get t ∨ aget l t = .any) ∧ (aget l t).lt nx
  | [], t, _, _ => ⟨.inr rfl, trivial⟩
  | (k, av) :: l, t, h, hl => by
    unfold aget
    split
    · rename_i e
      rw [e]
      exact ⟨.inl h.1.symm, hl.1⟩
    · exact envIn_get t h.2 hl.2
theorem tabIn_get {st : ASt} {nx : Nat} : ∀ {l : ATab} {id : Nat} {o : AObj}, tabIn st l → tabLt nx l → l.get id = some o → st.tab.get id = some o ∧ id < nx ∧ o.lt nx
  | [], id, o, _, _, h => by cases h
  | (k, oo) :: l, id, o, h, hl, hg => by
    rw [ATab.get_cons] at hg
    split at hg
    · rename_i e
      subst e
      subst hg
      exact ⟨h.1, hl.1.1, hl.1.2⟩
    · cases oo with
      | none => exact tabIn_get h.2 hl hg
      | some => exact tabIn_get h.2 hl.2 hg
/-- what is needed no more is let go -/
theorem weak_cut {st : ASt} {n nx : Nat} {env : List (Nat × AV)} {tab : ATab} (hn : st.n = n) (he : envIn st env) (ht : tabIn st tab) (hl : envLt nx env) (hl2 : tabLt nx tab) : Weak st ⟨n, env, tab, nx⟩ := by
  intro cx a w L h
  have hsub : ∀ id o, tab.get id = some o → st.tab.get id = some o := fun id o hid => (tabIn_get ht hl2 hid).1
  have hS : ∀ b, Sx cx w st.tab L b → Sx cx w tab L b := fun b hb => ⟨hb.1, hb.2.1, fun id o hid => hb.2.2 id o (hsub id o hid)⟩
  have hK : ∀ id p, Kx tab L id = some p → Kx st.tab L id = some p := fun id p hk => by
    unfold Kx at *
    cases ho : tab.get id with
    | none => simp [ho] at hk
    | some o => rw [hsub id o ho]; simpa [ho] using hk
  have hrv : ∀ x av, RVx cx w st.tab L x av → RVx cx w tab L x av := fun x av hr => by
    have : ∀ nx', av.lt nx' → RVx cx w tab L x av := fun nx' hlt => hr.mono hlt (fun _ _ => rfl) hS (fun id p _ hk => hK id p hk)
    induction hr with
    | tree h => exact .tree (h.mono (fun _ _ => rfl) hS)
    | osl x id h => exact .osl x id fun sz v e => h sz v (hK id _ e)
    | op x id i j h => exact .op x id i j fun sz v e => h sz v (hK id _ e)
    | agg xs cs hn hr ih => exact .agg xs cs hn fun j x av h1 h2 => ih j x av h1 h2 fun nx' hlt => (hr j x av h1 h2).mono hlt (fun _ _ => rfl) hS (fun id p _ hk => hK id p hk)
    | tup xs cs hn hr ih => exact .tup xs cs hn fun j x av h1 h2 => ih j x av h1 h2 fun nx' hlt => (hr j x av h1 h2).mono hlt (fun _ _ => rfl) hS (fun id p _ hk => hK id p hk)
    | fn fi xs cs hn hr ih => exact .fn fi xs cs hn fun j x av h1 h2 => ih j x av h1 h2 fun nx' hlt => (hr j x av h1 h2).mono hlt (fun _ _ => rfl) hS (fun id p _ hk => hK id p hk)
  refine ⟨L, ⟨⟨h.lay.below, fun id o hid => ?_, fun id id' o o' g h1 h2 => h.lay.sep id id' o o' g (hsub id o h1) (hsub id' o' h2), fun b hb => ⟨(h.lay.ex b hb).1, fun id o hid => (h.lay.ex b hb).2 id o (hsub id o hid)⟩⟩, h.size.trans hn, h.defers.mono (fun _ _ => rfl) hS, fun id o hid => (tabIn_get ht hl2 hid).2, fun t => ?_⟩, hS⟩
  · have ho := h.lay.objs id o (hsub id o hid)
    have hext : Ext cx w st.tab L 0 w tab L := ⟨fun _ _ => rfl, hS, fun id p hlt => by omega⟩
    cases o with
    | box t cells =>
      obtain ⟨g, cs, h1, h2, h3, h4, h5⟩ := ho
      exact ⟨g, cs, h1, h2, h3, h4, fun j x av h6 h7 => ⟨hrv x av (h5 j x av h6 h7).1, (h5 j x av h6 h7).2⟩⟩
    | row e sz rows =>
      obtain ⟨h1, xs, h2, h3, h4⟩ := ho
      refine ⟨h1, xs, h2, h3, fun i j row av h5 h6 => ?_⟩
      obtain ⟨x, hx, hr⟩ := h4 i j row av h5 h6
      exact ⟨x, hx, hext.rt hr⟩
  · obtain ⟨h1, h2⟩ := envIn_get t he hl
    show RVx cx w tab L _ (if t < n then aget env t else .any) ∧ (if t < n then aget env t else .any).lt nx
    split
    case isFalse => exact ⟨.tree (.any _), trivial⟩
    refine ⟨?_, h2⟩
    rcases h1 with h1 | h1
    · rw [h1]
      exact hrv _ _ (h.env t).1
    · rw [h1]
      exact .tree (.any _)
theorem Weak.trans {st st' st'' : ASt} (h : Weak st st') (h2 : Weak st' st'') : Weak st st'' := fun cx a w L hc => (h cx a w L hc).elim fun L' hc' => (h2 cx a w L' hc'.1).elim fun L2 h3 => ⟨L2, h3.1, fun b hb => h3.2 b (hc'.2 b hb)⟩
def AObj.ren (l : List Nat) : AObj → AObj
  | .box t cells => .box t (AV.renL l cells)
  | .row e sz rows => .row e sz rows
theorem AObj.ren_sz (l : List Nat) (o : AObj) : (o.ren l).sz = o.sz := by cases o <;> simp [AObj.ren, AObj.sz, renL_map]
def envInR (st : ASt) (ids : List Nat) : List (Nat × AV) → Prop
  | [] => True
  | (t, av) :: l => st.get t = av.ren ids ∧ envInR st ids l
def tabInR (st : ASt) (ids : List Nat) : ATab → Prop
  | [] => True
  | (id, some o) :: l => (id < ids.length ∧ st.tab.get (ids.getD id 0) = some (o.ren ids)) ∧ tabInR st ids l
  | (_, none) :: l => tabInR st ids l
theorem envInR_get {st : ASt} {ids : List Nat} {nx : Nat} : ∀ {l : List (Nat × AV)} (t : Nat), envInR st ids l → envLt nx l → ((aget l t).ren ids = st.get t ∨ aget l t = .any) ∧ (aget l t).lt nx
  | [], t, _, _ => ⟨.inr rfl, trivial⟩
  | (k, av) :: l, t, h, hl => by
    unfold aget
    split
    · rename_i e
      rw [e]
      exact ⟨.inl h.1.symm, hl.1⟩
    · exact envInR_get t h.2 hl.2
theorem tabInR_get {st : ASt} {ids : List Nat} {nx : Nat} : ∀ {l : ATab} {id : Nat} {o : AObj}, tabInR st ids l → tabLt nx l → l.get id = some o → (id < ids.length ∧ st.tab.get (ids.getD id 0) = some (o.ren ids)) ∧ id < nx ∧ o.lt nx
  | [], id, o, _, _, h => by cases h
  | (k, some oo) :: l, id, o, h, hl, hg => by
    rw [ATab.get_cons] at hg
    split at hg
    · rename_i e
      subst e
      cases hg
      exact ⟨h.1, hl.1.1, hl.1.2⟩
    · exact tabInR_get h.2 hl.2 hg
  | (k, none) :: l, id, o, h, hl, hg => by
    rw [ATab.get_cons] at hg
    split at hg
    · cases hg
    · exact tabInR_get (l := l) h hl hg
/-- what is needed no more is let go, and the objects are numbered anew -/
theorem weak_ren {st : ASt} {n nx : Nat} {env : List (Nat × AV)} {tab : ATab} (ids : List Nat) (hnd : ids.Nodup) (hn : st.n = n) (he : envInR st ids env) (ht : tabInR st ids tab) (hl : envLt nx env) (hl2 : tabLt nx tab) : Weak st ⟨n, env, tab, nx⟩ := by
  intro cx a w L h
  have hget : ∀ k o, tab.get k = some o → k < ids.length ∧ st.tab.get (ids.getD k 0) = some (o.ren ids) := fun k o hk => (tabInR_get ht hl2 hk).1
  have hS : ∀ b, Sx cx w st.tab L b → Sx cx w tab (fun k => L (ids.getD k 0)) b := fun b hb => ⟨hb.1, hb.2.1, fun k o hk => hb.2.2 _ _ (hget k o hk).2⟩
  have hK : ∀ k p, Kx tab (fun k => L (ids.getD k 0)) k = some p → Kx st.tab L (ids.getD k 0) = some p := fun k p hk => by
    unfold Kx at *
    cases ho : tab.get k with
    | none => simp [ho] at hk
    | some o =>
      rw [(hget k o ho).2]
      simpa [ho, AObj.ren_sz] using hk
  refine ⟨fun k => L (ids.getD k 0), ⟨⟨h.lay.below, fun k o hk => ?_, fun k k' o o' g h6 h7 h8 h9 => ?_, fun b hb => ⟨(h.lay.ex b hb).1, fun k o hk => (h.lay.ex b hb).2 _ _ (hget k o hk).2⟩⟩, h.size.trans hn, h.defers.mono (fun _ _ => rfl) hS, fun id o hid => (tabInR_get ht hl2 hid).2, fun t => ?_⟩, hS⟩
  · obtain ⟨_, h7⟩ := hget k o hk
    have ho := h.lay.objs _ _ h7
    cases o with
    | box t cells =>
      obtain ⟨g, cs, h1, h2, h3, h4, h5⟩ := ho
      refine ⟨g, cs, h1, h2, h3, by simpa [renL_map] using h4, fun j x av h6 h8 => ?_⟩
      have h9 := h5 j x (av.ren ids) h6 (by rw [renL_map, List.getElem?_map, h8]; rfl)
      exact ⟨rv_ren hS hK av x h9.1, h9.2⟩
    | row e sz rows =>
      obtain ⟨h1, xs, h2, h3, h4⟩ := ho
      refine ⟨h1, xs, h2, h3, fun i j row av h5 h6 => ?_⟩
      obtain ⟨x, hx, hr⟩ := h4 i j row av h5 h6
      exact ⟨x, hx, hr.mono (fun _ _ => rfl) hS⟩
  · obtain ⟨ha, hb⟩ := hget k o h6
    obtain ⟨ha', hb'⟩ := hget k' o' h7
    have := h.lay.sep _ _ _ _ g hb hb' h8 h9
    simp only [List.getD, List.getElem?_eq_getElem ha, List.getElem?_eq_getElem ha', Option.getD_some] at this
    have hp := List.pairwise_iff_getElem.1 hnd
    rcases Nat.lt_trichotomy k k' with hlt | he | hlt
    · exact absurd this (hp k k' ha ha' hlt)
    · exact he
    · exact absurd this.symm (hp k' k ha' ha hlt)
  · obtain ⟨h1, h2⟩ := envInR_get t he hl
    show RVx cx w tab _ _ (if t < n then aget env t else .any) ∧ (if t < n then aget env t else .any).lt nx
    split
    case isFalse => exact ⟨.tree (.any _), trivial⟩
    refine ⟨?_, h2⟩
    rcases h1 with h1 | h1
    · refine rv_ren hS hK _ _ ?_
      rw [h1]
      exact (h.env t).1
    · rw [h1]
      exact .tree (.any _)
/-- no slice, seen as a slice of the call's own that is empty -/
theorem weak_nil {st : ASt} (t e sz : Nat) (hg : st.get t = .c (.slice none 0 0)) : Weak st ⟨st.n, (t, .osl st.next) :: st.env, (st.next, some (.row e sz [])) :: st.tab, st.next + 1⟩ := by
  intro cx a w L h
  have hv := (h.env t).1
  rw [hg] at hv
  have hv := hv.c_inv
  have hput : a.put (some t) (.slice none 0 0) = a := by
    unfold Act.put
    have : a.tmps.setIfInBounds t (.slice none 0 0) = a.tmps := by
      apply Array.ext (by simp)
      intro i h1 h2
      rw [Array.getElem_setIfInBounds]
      split
      · rename_i e
        subst e
        rw [← hv]
        simp [Array.getD, h2]
      · rfl
    simp only [this]
  refine ⟨updL L st.next (.slice none 0 0), ?_, fun b hb => ⟨hb.1, hb.2.1, fun k o hk hg => ?_⟩⟩
  rotate_left
  · have hk : ATab.get ((st.next, some (.row e sz [])) :: st.tab) k = some o := hk
    rw [ATab.get_cons] at hk
    unfold updL at hg
    split at hk
    · rename_i e1
      rw [if_pos e1] at hg
      simp [vblk] at hg
    · rename_i e1
      rw [if_neg e1] at hg
      exact hb.2.2 k o hk hg
  have := conc_new (ob := .row e sz []) (v := .slice none 0 0) (x := .slice none 0 0) (av := .osl st.next) h (Below.refl _ _) (fun g hg => by simp [vblk] at hg) (fun hext => ⟨by simp, [], ownsR_nil .., by simp, by simp⟩) trivial (fun hext => ?_) (Nat.lt_succ_self _) (some t)
  · rw [hput] at this
    exact this
  · refine .osl _ _ fun sz u hk => ?_
    simp [Kx, ATab.get_cons, updL] at hk
    exact hk.2
/-- a loop's slot as a count -/
theorem weak_cut1 {st : ASt} {n nx : Nat} {env : List (Nat × AV)} {tab : ATab} (h : st.n = n ∧ (envIn st env ∧ tabIn st tab) ∧ envLt nx env ∧ tabLt nx tab) : Weak st ⟨n, env, tab, nx⟩ := weak_cut h.1 h.2.1.1 h.2.1.2 h.2.2.1 h.2.2.2
theorem weak_ren1 {st : ASt} {n nx : Nat} {env : List (Nat × AV)} {tab : ATab} (ids : List Nat) (h : ids.Nodup ∧ st.n = n ∧ (envInR st ids env ∧ tabInR st ids tab) ∧ envLt nx env ∧ tabLt nx tab) : Weak st ⟨n, env, tab, nx⟩ := weak_ren ids h.1 h.2.1 h.2.2.1.1 h.2.2.1.2 h.2.2.2.1 h.2.2.2.2
def slotN (st : ASt) (t : Nat) : Nat := match st.get t with | .c (.int _ n) => n.toNat | _ => 0

theorem wrap_in {x : Int} (h1 : -9223372036854775808 ≤ x) (h2 : x ≤ 9223372036854775807) : IntKind.i64.wrap x = x := by
  rw [IntKind.wrap_i64]; omega
theorem wrapK {k : Nat} (h : k ≤ 4611686018427387904) : IntKind.i64.wrap ((k : Int) + 1) = ((k + 1 : Nat) : Int) := by
  rw [wrap_in (by omega) (by omega)]; omega
/-- the answer of a function that gives back one value -/
def val (v : Value) : Res := ⟨.c v, [], 0⟩
theorem val_ok (v : Value) : (val v).Ok := ⟨fun id o h => (by cases h), trivial⟩
theorem gives_val {v : Value} {st : ASt} {av : AV} (h : av = .c v) : aGives (val v) st av := ⟨[], List.nodup_nil, by rw [h]; rfl, trivial⟩

theorem aGives_val {v : Value} {st : ASt} {av : AV} : aGives (val v) st av = (av = .c v) := propext ⟨fun ⟨ren, _, h, _⟩ => h.symm, gives_val⟩

/-! ### plain data as abstract values -/
abbrev eI (n : Int) : AV := .c (.int .i64 n)
abbrev eB (b : Bool) : AV := .c (.bool b)
abbrev eS (s : ByteArray) : AV := .c (.string s)
abbrev sI (l : List Int) : AV := .sl 1 (l.map fun n => [eI n])
theorem row_at {α : Type} {f : α → List AV} {l : List α} {k : Nat} (h : k < l.length) : (l.map f)[k]?.getD [] = f l[k] := by
  rw [List.getElem?_map, List.getElem?_eq_getElem h]; rfl
theorem callD {P : Program} {g : FuncId} {args : List AV} {v : Value} {K : Value → Prop} (h : ADet P g args (val v)) (hk : K v) : ∃ v, ADet P g args ⟨.c v, [], 0⟩ ∧ K v := ⟨v, h, hk⟩
theorem roundI {I : ASt → Prop} {μ : ASt → Nat} {n : Nat} {st st' : ASt} (hw : Weak st st') (hI : I st') (hm : μ st' < n) : aRound I μ n st := ⟨st', hw, hI, hm⟩
end
section
open Go.RowKit

/-- code, as it is: what it asks of a state -/
def SC (P : Program) (c : Code) (Q : Exit → ASt → Prop) (st : ASt) : Prop := ∀ (cx : Cx) (a : Act) (w : World) (L : Nat → Value), Conc cx a w st L → c.wp P (AfterC cx Q) a w
section
variable {P : Program} {x y : Code} {Q Q' : Exit → ASt → Prop} {st st' : ASt}
theorem sc_of (hm : P.follows .mixedOrders = true) (h : aCode P x Q st) : SC P x Q st := fun cx a w L hc => code_ok hm x Q a w st L hc h
theorem SC.mono (h : SC P x Q st) (hq : ∀ e st, Q e st → Q' e st) : SC P x Q' st := fun cx a w L hc => Code.wp_mono (fun e a w ⟨st', L', h1, h2⟩ => ⟨st', L', hq e st' h1, h2⟩) (h cx a w L hc)
theorem SC.weak (hw : Weak st st') (h : SC P x Q st') : SC P x Q st := fun cx a w L hc => (hw cx a w L hc).elim fun L' hc' => h cx a w L' hc'.1
theorem sc_seq (h : SC P x (aThen (SC P y Q) Q) st) : SC P (.seq x y) Q st := fun cx a w L hc =>
  wp_seq (Code.wp_mono (fun e a' w' ⟨st', L', h1, h2⟩ => by
    cases e with
    | normal => exact h1 cx a' w' L' h2
    | _ => exact ⟨st', L', h1, h2⟩) (h cx a w L hc))
theorem aTo_mk {I : ASt → Prop} (hw : Weak st st') (h : I st') : aTo I st := ⟨st', hw, h⟩
theorem sc_cut (I : ASt → Prop) (h : SC P x (aThen (aTo I) Q) st) (h2 : ∀ st, I st → SC P y Q st) : SC P (.seq x y) Q st :=
  sc_seq (h.mono fun e st h => by
    cases e with
    | normal =>
      obtain ⟨st', hw, hI⟩ := h
      exact (h2 st' hI).weak hw
    | _ => exact h)
end
/-- a function's contract out of its code, piece by piece -/
theorem adet_of_sc {P : Program} {f : FuncId} {fn : Func} {c : Code} (hf : P.funcs[f]? = some fn) (hb : fn.body = some c) (hname : (fn.name == "runtime.NumGoroutine") = false) {args : List AV} {R : Res} {n : Nat} (hnt : fn.ntmps = n) {rs : List ResultVar} (hrs : fn.results = rs.toArray) (hn : Nat.ble args.length n = true)
    (hok : R.Ok) (h : SC P c (aRet P rs R) ⟨n, envOf 0 args, [], 0⟩) : ADet P f args R := adet_of_wp hf hb hname hnt hrs hn hok h
/-- a contract of old -/
theorem adet_of_calls {P : Program} {f : FuncId} {args : List AV} {v : Value} (he : Enters P f)
    (h : ∀ (S : Nat → Prop) (w : World) (vs : Array Value), SOk w S → vs.size = args.length → (∀ (j : Nat) (v : Value) (av : AV), vs[j]? = some v → args[j]? = some av → RT w S v av) → Calls P f vs w fun e w' => e = .returned v ∧ Below w.heap.size w w') : ADet P f args (val v) :=
  ⟨he, fun S w vs h1 h2 h3 => (h S w vs h1 h2 h3).mono fun e w' ⟨h4, h5⟩ => ⟨v, fun _ => undef, val v, rfl, val_ok v, h4, ⟨belowX h5, fun id o h => (by cases h), fun id id' o o' g h => (by cases h), fun b hb => hb.elim⟩, .tree (.c v)⟩⟩
/-- a contract, said of values -/
theorem ADet.calls {P : Program} {f : FuncId} {args : List AV} {v : Value} (h : ADet P f args (val v)) {w : World} {vs : Array Value} (h2 : vs.size = args.length) (h3 : ∀ (j : Nat) (v : Value) (av : AV), vs[j]? = some v → args[j]? = some av → RT w (fun b => b < w.heap.size) v av) (hA : Amb w := by exact amb_any _) :
    Calls P f vs w fun e w' => e = .returned v ∧ Below w.heap.size w w' :=
  (h.2 _ w vs ⟨fun b hb => hb, hA, fun b hb => Nat.lt_of_lt_of_le hb hA.le⟩ h2 h3).mono fun e w' ⟨v', L, R, h0, _, h4, h5, h6⟩ => by
    subst h0
    obtain rfl := h6.c_inv
    exact ⟨h4, h5.below.below fun b hb => hb⟩
/-- the answer: one new slice -/
def own (e : TypeId) (sz : Nat) (rows : List (List AV)) : Res := ⟨.osl 0, [(0, some (.row e sz rows))], 1⟩
theorem own_ok (e : TypeId) (sz : Nat) (rows : List (List AV)) : (own e sz rows).Ok := by
  refine ⟨fun id o h => ?_, Nat.zero_lt_one⟩
  simp only [own, ATab.get_cons] at h
  split at h
  · rename_i e
    cases h
    subst e
    exact ⟨Nat.zero_lt_one, trivial⟩
  · cases h
theorem aGives_own {e : TypeId} {sz : Nat} {rows : List (List AV)} {st : ASt} {id : Nat} : st.tab.get id = some (.row e sz rows) → aGives (own e sz rows) st (.osl id) := fun h =>
  ⟨[id], by simp, rfl, ⟨Nat.zero_lt_one, ⟨e, sz, rows, rfl⟩, h⟩, trivial⟩
theorem retV {Post : Res → Prop} {st : ASt} {v : Value} (h : Post (val v)) : ∃ R, Post R ∧ R.Ok ∧ aGives R st (.c v) := ⟨_, h, val_ok v, gives_val rfl⟩
theorem retO {Post : Res → Prop} {st : ASt} {id : Nat} {e : TypeId} {sz : Nat} {rows : List (List AV)} (hg : st.tab.get id = some (.row e sz rows)) (h : Post (own e sz rows)) : ∃ R, Post R ∧ R.Ok ∧ aGives R st (.osl id) := ⟨_, h, own_ok .., aGives_own hg⟩
/-- a call, by what is known of its answers -/
theorem callP {u : Bool} {P : Program} {st : ASt} {g : FuncId} {args : List AV} {K : AV → ASt → Prop} {Post : Res → Prop} (h : ARel P g (args.map (dref st.tab)) Post) (hk : ∀ R, Post R → (roL args ∨ (R.r.plain ∧ R.tab.plain)) ∧ K (R.r.shift st.next) { st with tab := R.tab.shift st.next ++ st.tab, next := st.next + R.n }) : aCall u P st g args K := .inl ⟨Post, h, hk⟩
/-- a call that gives back this -/
theorem callR {u : Bool} {P : Program} {st : ASt} {g : FuncId} {args : List AV} {K : AV → ASt → Prop} {R : Res} (h : ADet P g (args.map (dref st.tab)) R) (ho : roL args ∨ (R.r.plain ∧ R.tab.plain)) (hk : K (R.r.shift st.next) { st with tab := R.tab.shift st.next ++ st.tab, next := st.next + R.n }) : aCall u P st g args K :=
  .inl ⟨_, h, fun R' e => by subst e; exact ⟨ho, hk⟩⟩
/-- a call that gives back one value -/
theorem callV {u : Bool} {P : Program} {st : ASt} {g : FuncId} {args : List AV} {dst : Option Nat} {K : ASt → Prop} {v : Value} (h : ADet P g (args.map (dref st.tab)) (val v)) (hk : K (st.put dst (.c v))) : aCall u P st g args (aK2 dst K) :=
  callR h (.inr ⟨trivial, trivial⟩) hk
/-- the rules of a walk, in one -/
theorem ruA : type_of% (And.intro (And.intro (And.intro (And.intro (And.intro (And.intro (And.intro @aCode_skip @aCode_regF) (And.intro @aCode_regT @aCode_seq)) (And.intro (And.intro @aCode_cond @aCode_block) (And.intro @aCode_loop (And.intro @aCode_exit @aCode_ret)))) (And.intro (And.intro (And.intro @aCode_label @aCode_scope) (And.intro @aNoGoto_normal (And.intro @aNoGoto_ret @aNoGoto_exit))) (And.intro (And.intro @aThen_normal @aThen_exit) (And.intro @aThen_ret (And.intro @aInBlock_normal @aInBlock_ret))))) (And.intro (And.intro (And.intro (And.intro @aInBlock_exit @aCond_bool) (And.intro @aSkip_eq @aKs_eq)) (And.intro (And.intro @aK_eq @aK2_eq) (And.intro @aFn_eq (And.intro @aFn_clo @aCallF_eq)))) (And.intro (And.intro (And.intro @aCallE_eq @aCallD_eq) (And.intro @aOps_nil (And.intro @aOps_plain @aOps_guard))) (And.intro (And.intro @aDops_nil @aDops_plain) (And.intro @aDops_guard (And.intro @aGuardD_eq @aGuardV_bool)))))) (And.intro (And.intro (And.intro (And.intro (And.intro @aGuardV_undef @aGd_tt) (And.intro @aGd_ff @aGd_tf)) (And.intro (And.intro @aGd_ft @aIf_true) (And.intro @aIf_false (And.intro @aSel_true @aSel_false)))) (And.intro (And.intro (And.intro @aPickK_bool @aOp_move) (And.intro @aOp_assign (And.intro @aOp_pick @aOp_load))) (And.intro (And.intro @aOp_field @aOp_index) (And.intro @aOp_bin (And.intro @aOp_un @aOp_extract))))) (And.intro (And.intro (And.intro (And.intro @aOp_conv @aOp_len) (And.intro @aOp_append @aOp_call)) (And.intro (And.intro @aOp_makeFunc @aOp_box) (And.intro @aOp_alloc (And.intro @aOp_store @aOp_buildSlice)))) (And.intro (And.intro (And.intro @aOp_makeSlice @aOp_build) (And.intro @aDop_move (And.intro @aDop_assign @aDop_pick))) (And.intro (And.intro @aDop_load @aDop_field) (And.intro @aDop_index (And.intro @aDop_bin @aDop_un))))))) (And.intro (And.intro (And.intro (And.intro (And.intro (And.intro @aDop_extract @aDop_conv) (And.intro @aDop_len @aDop_call)) (And.intro (And.intro @aDop_makeFunc @aDop_build) (And.intro @aGives_val (And.intro @aRet_n @aRet_r)))) (And.intro (And.intro (And.intro @aRetR_n @aRetR_r) (And.intro @aPops_nil (And.intro @aPops_plain @aPops_guard))) (And.intro (And.intro @aPop_eq @aHeldH_nil) (And.intro @aHeldH_cons (And.intro @aHeld_nil @aHeld_take))))) (And.intro (And.intro (And.intro (And.intro @aHeld_exec @aHeld_two) (And.intro @aHeld_three @aHeldL_plain)) (And.intro (And.intro @aHeldL_guard @aHeldT_plain) (And.intro @aHeldT_guard (And.intro @aTakeY_eq @aTakeN_eq)))) (And.intro (And.intro (And.intro @aTakeP_build @aTakeP_move) (And.intro @aTakeP_assign (And.intro @aTakeP_pick @aTakeP_load))) (And.intro (And.intro @aTakeP_field @aTakeP_index) (And.intro @aTakeP_fieldV (And.intro @aTakeP_bin @aTakeP_un)))))) (And.intro (And.intro (And.intro (And.intro (And.intro @aTakeP_extract @aTakeP_conv) (And.intro @aTakeP_call @aTakeP_clo)) (And.intro (And.intro @aHeldE_eq @aHeldE_guard) (And.intro @aExecK_eq (And.intro @aExec_assign @aExec_load)))) (And.intro (And.intro (And.intro @aExec_store @aExec_append) (And.intro @aExec_call (And.intro @aExec_buildSlice @aPure_move))) (And.intro (And.intro @aPure_assign @aPure_pick) (And.intro @aPure_load (And.intro @aPure_field @aPure_index))))) (And.intro (And.intro (And.intro (And.intro @aPure_bin @aPure_un) (And.intro @aPure_extract (And.intro @aPure_len @aPure_makeFunc))) (And.intro (And.intro @aOp_fieldV @aDop_fieldV) (And.intro @aPure_fieldV (And.intro @aOp_slice @aDop_slice)))) (And.intro (And.intro (And.intro @aPure_slice @aTakeP_slice) (And.intro @aExec_makeSlice (And.intro @aPure_max @aPure_min))) (And.intro (And.intro @aOp_max @aOp_min) (And.intro @aDop_max (And.intro @aDop_min @aExec_alloc)))))))) :=
  (And.intro (And.intro (And.intro (And.intro (And.intro (And.intro (And.intro @aCode_skip @aCode_regF) (And.intro @aCode_regT @aCode_seq)) (And.intro (And.intro @aCode_cond @aCode_block) (And.intro @aCode_loop (And.intro @aCode_exit @aCode_ret)))) (And.intro (And.intro (And.intro @aCode_label @aCode_scope) (And.intro @aNoGoto_normal (And.intro @aNoGoto_ret @aNoGoto_exit))) (And.intro (And.intro @aThen_normal @aThen_exit) (And.intro @aThen_ret (And.intro @aInBlock_normal @aInBlock_ret))))) (And.intro (And.intro (And.intro (And.intro @aInBlock_exit @aCond_bool) (And.intro @aSkip_eq @aKs_eq)) (And.intro (And.intro @aK_eq @aK2_eq) (And.intro @aFn_eq (And.intro @aFn_clo @aCallF_eq)))) (And.intro (And.intro (And.intro @aCallE_eq @aCallD_eq) (And.intro @aOps_nil (And.intro @aOps_plain @aOps_guard))) (And.intro (And.intro @aDops_nil @aDops_plain) (And.intro @aDops_guard (And.intro @aGuardD_eq @aGuardV_bool)))))) (And.intro (And.intro (And.intro (And.intro (And.intro @aGuardV_undef @aGd_tt) (And.intro @aGd_ff @aGd_tf)) (And.intro (And.intro @aGd_ft @aIf_true) (And.intro @aIf_false (And.intro @aSel_true @aSel_false)))) (And.intro (And.intro (And.intro @aPickK_bool @aOp_move) (And.intro @aOp_assign (And.intro @aOp_pick @aOp_load))) (And.intro (And.intro @aOp_field @aOp_index) (And.intro @aOp_bin (And.intro @aOp_un @aOp_extract))))) (And.intro (And.intro (And.intro (And.intro @aOp_conv @aOp_len) (And.intro @aOp_append @aOp_call)) (And.intro (And.intro @aOp_makeFunc @aOp_box) (And.intro @aOp_alloc (And.intro @aOp_store @aOp_buildSlice)))) (And.intro (And.intro (And.intro @aOp_makeSlice @aOp_build) (And.intro @aDop_move (And.intro @aDop_assign @aDop_pick))) (And.intro (And.intro @aDop_load @aDop_field) (And.intro @aDop_index (And.intro @aDop_bin @aDop_un))))))) (And.intro (And.intro (And.intro (And.intro (And.intro (And.intro @aDop_extract @aDop_conv) (And.intro @aDop_len @aDop_call)) (And.intro (And.intro @aDop_makeFunc @aDop_build) (And.intro @aGives_val (And.intro @aRet_n @aRet_r)))) (And.intro (And.intro (And.intro @aRetR_n @aRetR_r) (And.intro @aPops_nil (And.intro @aPops_plain @aPops_guard))) (And.intro (And.intro @aPop_eq @aHeldH_nil) (And.intro @aHeldH_cons (And.intro @aHeld_nil @aHeld_take))))) (And.intro (And.intro (And.intro (And.intro @aHeld_exec @aHeld_two) (And.intro @aHeld_three @aHeldL_plain)) (And.intro (And.intro @aHeldL_guard @aHeldT_plain) (And.intro @aHeldT_guard (And.intro @aTakeY_eq @aTakeN_eq)))) (And.intro (And.intro (And.intro @aTakeP_build @aTakeP_move) (And.intro @aTakeP_assign (And.intro @aTakeP_pick @aTakeP_load))) (And.intro (And.intro @aTakeP_field @aTakeP_index) (And.intro @aTakeP_fieldV (And.intro @aTakeP_bin @aTakeP_un)))))) (And.intro (And.intro (And.intro (And.intro (And.intro @aTakeP_extract @aTakeP_conv) (And.intro @aTakeP_call @aTakeP_clo)) (And.intro (And.intro @aHeldE_eq @aHeldE_guard) (And.intro @aExecK_eq (And.intro @aExec_assign @aExec_load)))) (And.intro (And.intro (And.intro @aExec_store @aExec_append) (And.intro @aExec_call (And.intro @aExec_buildSlice @aPure_move))) (And.intro (And.intro @aPure_assign @aPure_pick) (And.intro @aPure_load (And.intro @aPure_field @aPure_index))))) (And.intro (And.intro (And.intro (And.intro @aPure_bin @aPure_un) (And.intro @aPure_extract (And.intro @aPure_len @aPure_makeFunc))) (And.intro (And.intro @aOp_fieldV @aDop_fieldV) (And.intro @aPure_fieldV (And.intro @aOp_slice @aDop_slice)))) (And.intro (And.intro (And.intro @aPure_slice @aTakeP_slice) (And.intro @aExec_makeSlice (And.intro @aPure_max @aPure_min))) (And.intro (And.intro @aOp_max @aOp_min) (And.intro @aDop_max (And.intro @aDop_min @aExec_alloc))))))))
theorem ruB : type_of% (And.intro (And.intro (And.intro (And.intro (And.intro @ATab.get_cons (And.intro @Nat.zero_add @Nat.add_zero)) (And.intro (And.intro @List.getElem?_cons_zero.{0} @List.getElem?_cons_succ.{0}) (And.intro @List.getElem?_toArray.{0} @Option.bind_some.{0,0}))) (And.intro (And.intro (And.intro @List.map_cons.{0,0} @List.map_nil.{0,0}) (And.intro @List.length_cons.{0} @List.length_nil.{0})) (And.intro (And.intro @List.drop_succ_cons.{0} @List.drop_zero.{0}) (And.intro @List.take_succ_cons.{0} @List.take_zero.{0})))) (And.intro (And.intro (And.intro (And.intro @List.headD_cons.{0} @List.length_map.{0,0}) (And.intro @Bool.not_true @Bool.not_false)) (And.intro (And.intro @true_and @and_true) (And.intro @Option.getD_some.{0} @List.cons_append.{0}))) (And.intro (And.intro (And.intro @List.nil_append.{0} @List.append_nil.{0}) (And.intro @Nat.succ_ne_self @Nat.one_ne_zero)) (And.intro (And.intro @AV.c.injEq @Value.bool.injEq) (And.intro @Value.int.injEq @false_implies))))) (And.intro (And.intro (And.intro (And.intro (And.intro @decide_eq_true_eq @decide_eq_false_iff_not) (And.intro @Int.natCast_nonneg @Int.ofNat_lt)) (And.intro (And.intro @Int.ofNat_le @Int.toNat_natCast) (And.intro @not_false_eq_true @not_true_eq_false))) (And.intro (And.intro (And.intro @Nat.le_refl @false_and) (And.intro @and_false @Nat.succ_ne_zero)) (And.intro (And.intro @imp_self @true_implies) (And.intro @decide_true @decide_false)))) (And.intro (And.intro (And.intro (And.intro @List.set_cons_zero.{0} @List.set_cons_succ.{0}) (And.intro @Nat.zero_le @List.mem_cons.{0})) (And.intro (And.intro @List.not_mem_nil.{0} @or_false) (And.intro @List.flatMap_cons.{0,0} @List.flatMap_nil.{0,0}))) (And.intro (And.intro (And.intro @Option.map_some.{0,0} @Option.map_none.{0,0}) (And.intro @Option.isSome_some.{0} @Option.isSome_none.{0})) (And.intro (And.intro @Int.le_refl @List.take_length.{0}) (And.intro @true_or @or_true)))))) :=
  (And.intro (And.intro (And.intro (And.intro (And.intro @ATab.get_cons (And.intro @Nat.zero_add @Nat.add_zero)) (And.intro (And.intro @List.getElem?_cons_zero.{0} @List.getElem?_cons_succ.{0}) (And.intro @List.getElem?_toArray.{0} @Option.bind_some.{0,0}))) (And.intro (And.intro (And.intro @List.map_cons.{0,0} @List.map_nil.{0,0}) (And.intro @List.length_cons.{0} @List.length_nil.{0})) (And.intro (And.intro @List.drop_succ_cons.{0} @List.drop_zero.{0}) (And.intro @List.take_succ_cons.{0} @List.take_zero.{0})))) (And.intro (And.intro (And.intro (And.intro @List.headD_cons.{0} @List.length_map.{0,0}) (And.intro @Bool.not_true @Bool.not_false)) (And.intro (And.intro @true_and @and_true) (And.intro @Option.getD_some.{0} @List.cons_append.{0}))) (And.intro (And.intro (And.intro @List.nil_append.{0} @List.append_nil.{0}) (And.intro @Nat.succ_ne_self @Nat.one_ne_zero)) (And.intro (And.intro @AV.c.injEq @Value.bool.injEq) (And.intro @Value.int.injEq @false_implies))))) (And.intro (And.intro (And.intro (And.intro (And.intro @decide_eq_true_eq @decide_eq_false_iff_not) (And.intro @Int.natCast_nonneg @Int.ofNat_lt)) (And.intro (And.intro @Int.ofNat_le @Int.toNat_natCast) (And.intro @not_false_eq_true @not_true_eq_false))) (And.intro (And.intro (And.intro @Nat.le_refl @false_and) (And.intro @and_false @Nat.succ_ne_zero)) (And.intro (And.intro @imp_self @true_implies) (And.intro @decide_true @decide_false)))) (And.intro (And.intro (And.intro (And.intro @List.set_cons_zero.{0} @List.set_cons_succ.{0}) (And.intro @Nat.zero_le @List.mem_cons.{0})) (And.intro (And.intro @List.not_mem_nil.{0} @or_false) (And.intro @List.flatMap_cons.{0,0} @List.flatMap_nil.{0,0}))) (And.intro (And.intro (And.intro @Option.map_some.{0,0} @Option.map_none.{0,0}) (And.intro @Option.isSome_some.{0} @Option.isSome_none.{0})) (And.intro (And.intro @Int.le_refl @List.take_length.{0}) (And.intro @true_or @or_true))))))
theorem ruW : type_of% (And.intro (And.intro (And.intro (And.intro @ATab.get_cons @and_true) (And.intro @true_and (And.intro @AV.c.injEq @Value.int.injEq))) (And.intro (And.intro @Value.bool.injEq @Bool.not_true) (And.intro @Bool.not_false (And.intro @Nat.succ_ne_self @Nat.one_ne_zero)))) (And.intro (And.intro (And.intro @Nat.succ_ne_zero @not_true_eq_false) (And.intro @not_false_eq_true (And.intro @Int.natCast_nonneg @List.map_cons.{0,0}))) (And.intro (And.intro @List.map_nil.{0,0} (And.intro @List.cons_append.{0} @List.nil_append.{0})) (And.intro @List.append_nil.{0} (And.intro @decide_true @decide_false))))) :=
  (And.intro (And.intro (And.intro (And.intro @ATab.get_cons @and_true) (And.intro @true_and (And.intro @AV.c.injEq @Value.int.injEq))) (And.intro (And.intro @Value.bool.injEq @Bool.not_true) (And.intro @Bool.not_false (And.intro @Nat.succ_ne_self @Nat.one_ne_zero)))) (And.intro (And.intro (And.intro @Nat.succ_ne_zero @not_true_eq_false) (And.intro @not_false_eq_true (And.intro @Int.natCast_nonneg @List.map_cons.{0,0}))) (And.intro (And.intro @List.map_nil.{0,0} (And.intro @List.cons_append.{0} @List.nil_append.{0})) (And.intro @List.append_nil.{0} (And.intro @decide_true @decide_false)))))
end
section
open Go.RowKit
theorem enters_of {P : Program} {f : FuncId} {fn : Func} {c : Code} (hf : P.funcs[f]? = some fn) (hb : fn.body = some c) (hname : (fn.name == "runtime.NumGoroutine") = false) : Enters P f := fun args w => by
  have : ¬ fn.name = "runtime.NumGoroutine" := by simpa using hname
  simp [callFunc, Sem.run_bind, hf, this, hb]
theorem rtc {w : World} {S : Nat → Prop} {v u : Value} (h : RT w S v (.c u)) : v = u := by cases h; rfl
theorem callT {u : Bool} {P : Program} {st : ASt} {g : FuncId} {args : List AV} {K : AV → ASt → Prop} {r : AV} (h : ADet P g (args.map (dref st.tab)) ⟨r, [], 0⟩) (ho : roL args ∨ r.plain) (hk : K (r.shift st.next) st) : aCall u P st g args K :=
  callR h (ho.imp id fun h => ⟨h, trivial⟩) hk
theorem callO {u : Bool} {P : Program} {st : ASt} {g : FuncId} {args : List AV} {K : AV → ASt → Prop} {e : TypeId} {sz : Nat} {rows : List (List AV)} (h : ADet P g (args.map (dref st.tab)) (own e sz rows)) (ho : roL args ∨ ∀ row ∈ rows, ∀ av ∈ row, av.plain) (hk : K (.osl st.next) ⟨st.n, st.env, (st.next, some (.row e sz rows)) :: st.tab, st.next + 1⟩) : aCall u P st g args K :=
  callR h (ho.imp id fun h => ⟨trivial, h, trivial⟩) (by
    have e1 : (own e sz rows).r.shift st.next = .osl st.next := by simp [own, AV.shift]
    have e2 : (own e sz rows).tab.shift st.next = [(st.next, some (.row e sz rows))] := by simp [own, ATab.shift, AObj.shift]
    rw [e1, e2]
    exact hk)
theorem ints_plain {l : List Int} : ∀ row ∈ l.map (fun n => [eI n]), ∀ av ∈ row, av.plain := fun row hr av ha => by
  obtain ⟨n, _, rfl⟩ := List.mem_map.1 hr
  simp at ha
  subst ha
  trivial
/-- what is a value of the one is one of the other -/
inductive Fits0 : AV → AV → Prop
  | refl (a : AV) : Fits0 a a
  | nil (sz : Nat) : Fits0 (.c (.slice none 0 0)) (.sl sz [])
def RowFit : List AV → List AV → Prop
  | [], [] => True
  | a :: l, b :: l' => Fits0 a b ∧ RowFit l l'
  | _, _ => False
def RowsFit : List (List AV) → List (List AV) → Prop
  | [], [] => True
  | a :: l, b :: l' => RowFit a b ∧ RowsFit l l'
  | _, _ => False
inductive Fits1 : AV → AV → Prop
  | refl (a : AV) : Fits1 a a
  | nil (sz : Nat) : Fits1 (.c (.slice none 0 0)) (.sl sz [])
  | rows {sz : Nat} {r r' : List (List AV)} (h : RowsFit r r') : Fits1 (.sl sz r) (.sl sz r')
def FitsL : List AV → List AV → Prop
  | [], [] => True
  | a :: l, b :: l' => Fits1 a b ∧ FitsL l l'
  | _, _ => False
inductive FitsA : AV → AV → Prop
  | one {a b : AV} (h : Fits1 a b) : FitsA a b
  | agg {l l' : List AV} (h : FitsL l l') : FitsA (.agg l) (.agg l')
def FitsAs : List AV → List AV → Prop
  | [], [] => True
  | a :: l, b :: l' => FitsA a b ∧ FitsAs l l'
  | _, _ => False
theorem Fits0.rt {w : World} {S : Nat → Prop} {v : Value} {a b : AV} (h : Fits0 a b) (hr : RT w S v a) : RT w S v b := by
  cases h with
  | refl => exact hr
  | nil sz =>
    rw [rtc hr]
    exact .sl none 0 0 sz [] 0 0 (fun _ _ => undef) rfl (Nat.le_refl _) (by omega) (fun h => by omega) (by simp) (fun h => by omega) (by simp) (by simp)
theorem RowFit.spec : ∀ {l l' : List AV}, RowFit l l' → l.length = l'.length ∧ ∀ (j : Nat) (b : AV), l'[j]? = some b → ∃ a, l[j]? = some a ∧ Fits0 a b
  | [], [], _ => ⟨rfl, fun j b h => by simp at h⟩
  | a :: l, b :: l', h => by
    obtain ⟨h1, h2⟩ := RowFit.spec h.2
    refine ⟨by simp [h1], fun j b' h3 => ?_⟩
    cases j with
    | zero =>
      simp at h3
      subst h3
      exact ⟨a, rfl, h.1⟩
    | succ j => exact h2 j b' (by simpa using h3)
  | [], _ :: _, h => h.elim
  | _ :: _, [], h => h.elim
theorem RowsFit.spec : ∀ {l l' : List (List AV)}, RowsFit l l' → l.length = l'.length ∧ ∀ (j : Nat) (b : List AV), l'[j]? = some b → ∃ a, l[j]? = some a ∧ RowFit a b
  | [], [], _ => ⟨rfl, fun j b h => by simp at h⟩
  | a :: l, b :: l', h => by
    obtain ⟨h1, h2⟩ := RowsFit.spec h.2
    refine ⟨by simp [h1], fun j b' h3 => ?_⟩
    cases j with
    | zero =>
      simp at h3
      subst h3
      exact ⟨a, rfl, h.1⟩
    | succ j => exact h2 j b' (by simpa using h3)
  | [], _ :: _, h => h.elim
  | _ :: _, [], h => h.elim
theorem Fits1.rt {w : World} {S : Nat → Prop} {v : Value} {a b : AV} (h : Fits1 a b) (hr : RT w S v a) : RT w S v b := by
  cases h with
  | refl => exact hr
  | nil sz => exact (Fits0.nil sz).rt hr
  | rows h =>
    rename_i sz r r'
    obtain ⟨hl, hx⟩ := h.spec
    cases hr with
    | sl A n cap sz rows b o U hn hc hm hA hs hcell hone hr =>
      have key : ∀ i j row' av', r'[i]? = some row' → row'[j]? = some av' → ∃ row av, r[i]? = some row ∧ row[j]? = some av ∧ Fits0 av av' := fun i j row' av' h1 h2 => by
        obtain ⟨row, h3, h4⟩ := hx i row' h1
        obtain ⟨av, h5, h6⟩ := h4.spec.2 j av' h2
        exact ⟨row, av, h3, h5, h6⟩
      refine .sl A n cap sz r' b o U (hn.trans hl) hc hm hA (fun row' hrow => ?_) (fun h0 i j row' av' h1 h2 => ?_) (fun i j row' av' h1 h2 => ?_) (fun i j row' av' h1 h2 => ?_)
      · obtain ⟨i, hi⟩ := List.getElem?_of_mem hrow
        obtain ⟨row, h3, h4⟩ := hx i row' hi
        rw [← h4.spec.1]
        exact hs row (List.mem_of_getElem? h3)
      · obtain ⟨row, av, h3, h4, _⟩ := key i j row' av' h1 h2
        exact hcell h0 i j row av h3 h4
      · obtain ⟨row, av, h3, h4, _⟩ := key i j row' av' h1 h2
        exact hone i j row av h3 h4
      · obtain ⟨row, av, h3, h4, h5⟩ := key i j row' av' h1 h2
        exact h5.rt (hr i j row av h3 h4)
theorem FitsL.spec : ∀ {l l' : List AV}, FitsL l l' → l.length = l'.length ∧ ∀ (j : Nat) (a b : AV), l[j]? = some a → l'[j]? = some b → Fits1 a b
  | [], [], _ => ⟨rfl, fun j a b h => by simp at h⟩
  | a :: l, b :: l', h => by
    obtain ⟨h1, h2⟩ := FitsL.spec h.2
    refine ⟨by simp [h1], fun j a' b' h3 h4 => ?_⟩
    cases j with
    | zero =>
      simp at h3 h4
      subst h3 h4
      exact h.1
    | succ j => exact h2 j a' b' (by simpa using h3) (by simpa using h4)
  | [], _ :: _, h => h.elim
  | _ :: _, [], h => h.elim
theorem FitsA.rt {w : World} {S : Nat → Prop} {v : Value} {a b : AV} (h : FitsA a b) (hr : RT w S v a) : RT w S v b := by
  cases h with
  | one h => exact h.rt hr
  | agg h =>
    obtain ⟨hl, hx⟩ := h.spec
    cases hr with
    | agg xs cs hn hc =>
      refine .agg xs _ (hn.trans hl) fun j x av h1 h2 => ?_
      rename_i l l'
      have hj : j < l'.length := (List.getElem?_eq_some_iff.1 h2).1
      obtain ⟨a, ha⟩ : ∃ a, l[j]? = some a := ⟨_, List.getElem?_eq_getElem (by omega)⟩
      exact (hx j a av ha h2).rt (hc j x a h1 ha)
theorem FitsAs.spec : ∀ {l l' : List AV}, FitsAs l l' → l.length = l'.length ∧ ∀ (j : Nat) (a b : AV), l[j]? = some a → l'[j]? = some b → FitsA a b
  | [], [], _ => ⟨rfl, fun j a b h => by simp at h⟩
  | a :: l, b :: l', h => by
    obtain ⟨h1, h2⟩ := FitsAs.spec h.2
    refine ⟨by simp [h1], fun j a' b' h3 h4 => ?_⟩
    cases j with
    | zero =>
      simp at h3 h4
      subst h3 h4
      exact h.1
    | succ j => exact h2 j a' b' (by simpa using h3) (by simpa using h4)
  | [], _ :: _, h => h.elim
  | _ :: _, [], h => h.elim
theorem ADet.fits {P : Program} {f : FuncId} {args args' : List AV} {R : Res} (h : ADet P f args' R) (hf : FitsAs args args') : ADet P f args R :=
  ⟨h.1, fun S w vs h1 h2 h3 => h.2 S w vs h1 (h2.trans hf.spec.1) fun j v av h4 h5 => by
    have hj : j < args'.length := (List.getElem?_eq_some_iff.1 h5).1
    obtain ⟨a, ha⟩ : ∃ a, args[j]? = some a := ⟨_, List.getElem?_eq_getElem (by rw [hf.spec.1]; exact hj)⟩
    exact (hf.spec.2 j a av ha h5).rt (h3 j v a h4 ha)⟩
theorem ARel.fits {P : Program} {f : FuncId} {args args' : List AV} {Post : Res → Prop} (h : ARel P f args' Post) (hf : FitsAs args args') : ARel P f args Post :=
  ⟨h.1, fun S w vs h1 h2 h3 => h.2 S w vs h1 (h2.trans hf.spec.1) fun j v av h4 h5 => by
    have hj : j < args'.length := (List.getElem?_eq_some_iff.1 h5).1
    obtain ⟨a, ha⟩ : ∃ a, args[j]? = some a := ⟨_, List.getElem?_eq_getElem (by rw [hf.spec.1]; exact hj)⟩
    exact (hf.spec.2 j a av ha h5).rt (h3 j v a h4 ha)⟩
/-- a call that gives back some truth -/
theorem callPB {u : Bool} {P : Program} {st : ASt} {g : FuncId} {args : List AV} {dst : Option Nat} {K : ASt → Prop} {Q : Bool → Prop} (h : ARel P g (args.map (dref st.tab)) fun R => ∃ b, R = val (.bool b) ∧ Q b) (hk : ∀ b, Q b → K (st.put dst (.c (.bool b)))) : aCall u P st g args (aK2 dst K) :=
  callP h fun R ⟨b, hR, hq⟩ => by subst hR; exact ⟨.inr ⟨trivial, trivial⟩, hk b hq⟩
section
variable {P : Program} {w : World} {d : Nat} {xs ys : Array Value} {f : Field} {fs : List Field}
end
end
section
open Go.RowKit

section
variable {P : Program} {cx : Cx} {a : Act} {w w' w'' : World} {st : ASt} {tab tab' tab'' : ATab} {L L' L'' : Nat → Value} {nx nx' nx'' : Nat}
theorem Fr.refl : Fr cx w tab L nx w tab L nx := ⟨Ext.refl .., Nat.le_refl _, fun _ _ _ => rfl, fun id o g h1 h2 _ => ⟨id, o, h1, h2⟩, Nat.le_refl _⟩
theorem Fr.trans (h : Fr cx w tab L nx w' tab' L' nx') (k : Fr cx w' tab' L' nx' w'' tab'' L'' nx'') : Fr cx w tab L nx w'' tab'' L'' nx'' :=
  ⟨⟨fun b hb => (k.ext.blk b (h.ext.sub b hb)).trans (h.ext.blk b hb), fun b hb => k.ext.sub b (h.ext.sub b hb), fun id p hid hp => h.ext.loc id p hid (k.ext.loc id p (Nat.lt_of_lt_of_le hid h.next) hp)⟩,
   Nat.le_trans h.size k.size,
   fun j hj hn => (k.keep j (Nat.lt_of_lt_of_le hj h.size) fun id o h1 h2 => (h.young id o j h1 h2 hj).elim fun id2 ⟨o2, h3, h4⟩ => hn id2 o2 h3 h4).trans (h.keep j hj hn),
   fun id o g h1 h2 hg => (k.young id o g h1 h2 (Nat.lt_of_lt_of_le hg h.size)).elim fun id2 ⟨o2, h3, h4⟩ => h.young id2 o2 g h3 h4 hg,
   Nat.le_trans h.next k.next⟩
end
end
section
open Go.RowKit

section
variable {P : Program} {cx : Cx} {a : Act} {w w' : World} {st : ASt} {L L' : Nat → Value} {l0 n : Nat}
/-- memory that the caller does not write: with what was laid since -/
def grow (T : Nat → Prop) (w w' : World) (b : Nat) : Prop := T b ∨ (w.heap.size ≤ b ∧ b < w'.heap.size)
theorem conc_move {c c' : Cx} (h : Conc c a w st L) (hw : c'.w0 = c.w0) (hblk : ∀ b, Sx c w st.tab L b → w'.heap[b]? = w.heap[b]?) (hown : ∀ id o g, st.tab.get id = some o → vblk (L id) = some g → w'.heap[g]? = w.heap[g]?) (hS : ∀ b, Sx c w st.tab L b → Sx c' w' st.tab L b)
    (hb : BelowX c'.X c'.w0.heap.size c'.w0 w') (hex : ∀ b, c'.X b → b < w'.heap.size ∧ ∀ id o, st.tab.get id = some o → vblk (L id) ≠ some b) : Conc c' a w' st L := by
  have hrv : ∀ {x av nx}, RVx c w st.tab L x av → av.lt nx → RVx c' w' st.tab L x av := fun hr hl => hr.mono hl (fun p hp => World.cell?_of_block (hblk _ hp)) hS (fun _ _ _ h => h)
  refine ⟨⟨hb, fun id o hid => ?_, h.lay.sep, hex⟩, h.size, by rw [hw]; exact h.defers.mono hblk hS, h.young, fun t => ⟨hrv (h.env t).1 (h.env t).2, (h.env t).2⟩⟩
  have ho := h.lay.objs id o hid
  have hy := (h.young id o hid).2
  cases o with
  | box t cells =>
    obtain ⟨g, cs, h1, h2, h3, h4, h5⟩ := ho
    exact ⟨g, cs, h1, by rw [hw]; exact h2, (hown id _ g hid (by rw [h1]; rfl)).trans h3, h4, fun j x av h6 h7 => ⟨hrv (h5 j x av h6 h7).1 (ltL_iff.1 hy _ (List.mem_of_getElem? h7)), (h5 j x av h6 h7).2⟩⟩
  | row e sz rows =>
    obtain ⟨h1, xs, hown', h2, h3⟩ := ho
    refine ⟨h1, xs, ⟨hown'.1, ?_⟩, h2, fun i j row av ha hb => ?_⟩
    · rcases hown'.2 with hn | ⟨g, cap, cur, h4, hb, hh, rest⟩
      · exact .inl hn
      · exact .inr ⟨g, cap, cur, h4, by rw [hw]; exact hb, (hown id _ g hid (by rw [h4]; rfl)).trans hh, rest⟩
    · obtain ⟨x, hx, hr⟩ := h3 i j row av ha hb
      exact ⟨x, hx, hr.mono (fun p hp => World.cell?_of_block (hblk _ hp)) hS⟩
def Cx.ex (c : Cx) (M : Nat → Prop) (hM : ∀ b, M b → c.w0.heap.size ≤ b) : Cx := ⟨c.F, c.w0, fun b => c.X b ∨ M b, c.amb, fun b h => h.elim (c.exD b) fun h2 => Nat.le_trans c.amb.le (hM b h2), c.inF⟩
def JAt (cx : Cx) (a0 : Act) (l : Nat) (r : Loop) (I : ASt → Prop) (T M : Nat → Prop) (W : World) : Prop :=
  ∃ (hqq : ∀ b, M b → cx.w0.heap.size ≤ b) (st : ASt) (L : Nat → Value), I st ∧ Conc (cx.ex M hqq) a0 W st L ∧ W.heap[l]? = some (.loop r) ∧ Sx (cx.ex M hqq) W st.tab L l ∧ ¬ T l ∧ (∀ b, M b → T b ∧ cx.w0.heap.size ≤ b) ∧ ∀ b, T b → Sx cx W st.tab L b
theorem sx_new (h : Conc cx a w st L) {b : Nat} (h1 : w.heap.size ≤ b) (h2 : b < w'.heap.size) : Sx cx w' st.tab L b :=
  ⟨h2, ⟨.inr (Nat.le_trans h.lay.below.size h1), fun hX => absurd (h.lay.ex b hX).1 (Nat.not_lt.2 h1)⟩, fun id o hid hg => absurd ((h.lay.objs id o hid).ge hg).2 (by omega)⟩
theorem JAt.step {a0 : Act} {l : Nat} {r : Loop} {I : ASt → Prop} {T M M' : Nat → Prop} (h : JAt cx a0 l r I T M w) (hb : BelowX M w.heap.size w w') (hM : ∀ b, M' b → M b ∨ (w.heap.size ≤ b ∧ b < w'.heap.size)) : JAt cx a0 l r I (grow T w w') M' w' := by
  obtain ⟨hqq, st, L, h1, h2, h3, h4, h5, h6, h7⟩ := h
  have hsz : cx.w0.heap.size ≤ w.heap.size := h2.lay.below.size
  have hq' : ∀ b, M' b → cx.w0.heap.size ≤ b := fun b hb2 => (hM b hb2).elim (hqq b) fun h8 => Nat.le_trans hsz h8.1
  have hS : ∀ b, Sx (cx.ex M hqq) w st.tab L b → Sx (cx.ex M' hq') w' st.tab L b := fun b hs => ⟨Nat.lt_of_lt_of_le hs.1 hb.size, ⟨hs.2.1.1, fun hx => by
    rcases hx with hx | hx
    · exact hs.2.1.2 (.inl hx)
    · rcases hM b hx with hm | hm
      · exact hs.2.1.2 (.inr hm)
      · have := hs.1
        omega⟩, hs.2.2⟩
  have hblk : ∀ b, Sx (cx.ex M hqq) w st.tab L b → w'.heap[b]? = w.heap[b]? := fun b hs => hb.block b hs.1 fun hm => hs.2.1.2 (.inr hm)
  have hex : ∀ b, (cx.ex M' hq').X b → b < w'.heap.size ∧ ∀ id o, st.tab.get id = some o → vblk (L id) ≠ some b := fun b hx => by
    have old : (cx.ex M hqq).X b → b < w'.heap.size ∧ ∀ id o, st.tab.get id = some o → vblk (L id) ≠ some b := fun hx => ⟨Nat.lt_of_lt_of_le (h2.lay.ex b hx).1 hb.size, (h2.lay.ex b hx).2⟩
    rcases hx with hx | hx
    · exact old (.inl hx)
    · rcases hM b hx with hm | hm
      · exact old (.inr hm)
      · exact ⟨hm.2, fun id o hid hg => absurd ((h2.lay.objs id o hid).ge hg).2 (by omega)⟩
  have hbel : BelowX (cx.ex M' hq').X (cx.ex M' hq').w0.heap.size (cx.ex M' hq').w0 w' := by
    have h8 : BelowX (cx.ex M hqq).X cx.w0.heap.size cx.w0 w := h2.lay.below
    refine ⟨hb.os.trans h8.os, hb.tape.trans h8.tape, hb.output.trans h8.output, Nat.le_trans h8.size hb.size, fun k (hk : k < cx.w0.heap.size) hx => ?_⟩
    have hm : ¬ M k := fun hm => by
      have := (h6 k hm).2
      omega
    refine (hb.block k (by omega) hm).trans (h8.block k hk fun hx' => ?_)
    rcases hx' with hx' | hx'
    · exact hx (.inl hx')
    · exact hm hx'
  refine ⟨hq', st, L, h1, conc_move h2 rfl hblk (fun id o g hid hg => hb.block g ((h2.lay.objs id o hid).ge hg).2 fun hm => (h2.lay.ex g (.inr hm)).2 id o hid hg) hS hbel hex, (hblk l h4).trans h3, hS l h4, fun hg => ?_, fun b hm => ?_, fun b hg => ?_⟩
  · rcases hg with hg | hg
    · exact h5 hg
    · have := h4.1
      omega
  · rcases hM b hm with hm | hm
    · exact ⟨.inl (h6 b hm).1, (h6 b hm).2⟩
    · exact ⟨.inr hm, by omega⟩
  · rcases hg with hg | hg
    · exact ⟨Nat.lt_of_lt_of_le (h7 b hg).1 hb.size, (h7 b hg).2.1, (h7 b hg).2.2⟩
    · have := sx_new h2 hg.1 hg.2
      exact ⟨this.1, ⟨this.2.1.1, fun hx => this.2.1.2 (.inl hx)⟩, this.2.2⟩
end
end
section
open Go.RowKit

/-- what has been handed on, and whether more is wanted -/
abbrev IG := List (List AV) × Bool
section
variable {P : Program} {l : Nat} {xs : List (List AV)} {Q : Exit → IG → ASt → Prop} {g : IG} {st : ASt} {K : IG → ASt → Prop} {ops : Array Oper} {dst : Option Tmp} {op : Op} {ty : TypeId} {pos : String} {aft : Array Edge} {gd : Option (Nat × Bool)} {rest : List Oper}
end
/-- what the iterator is not to touch begins behind the program's own variables -/
structure IAmb (T0 : Nat → Prop) (W0 : World) (T : Nat → Prop) : Prop where
  amb : Amb W0
  tab0 : ∀ b, b < ambD → T0 b
  tab : ∀ b, b < ambD → T b
section
variable {P : Program} {l : Nat} {xs : List (List AV)} {T0 : Nat → Prop} {W0 : World} {J Jx : List (List AV) → (Nat → Prop) → (Nat → Prop) → World → Prop} {g : IG} {st st' : ASt} {a a' : Act} {W W' : World} {L L' : Nat → Value} {T M M' : Nat → Prop}
theorem IAmb.grow (hq : IAmb T0 W0 T) : IAmb T0 W0 (grow T W W') := ⟨hq.amb, hq.tab0, fun b hb => .inl (hq.tab b hb)⟩
end
end
section
open Go.RowKit
theorem weak_frz (st : ASt) (id : Nat) : Weak st (frz1 st id) := fun cx a w L h => ⟨L, (conc_frz1 h id).1, fun b hb => ⟨hb.1, hb.2.1, fun k o hk => by
  unfold frz1 at hk
  split at hk
  · simp only [ATab.get_cons, frzTab_get] at hk
    split at hk
    · cases hk
    · cases hg : st.tab.get k with
      | none => simp [hg] at hk
      | some o' => exact hb.2.2 k o' hg
  · exact hb.2.2 k o hk⟩⟩
end
section
open Go.RowKit

theorem loop_ne (s : ByteArray) : ∀ (n i : Nat) (r : List UInt8), s.size - i ≤ n → r ≠ [] → ByteArray.toList.loop s i r ≠ [] := by
  intro n
  induction n with
  | zero => intro i r h hr; rw [ByteArray.toList.loop, if_neg (by omega)]; simpa using hr
  | succ n ih =>
    intro i r h hr
    rw [ByteArray.toList.loop]
    split
    · exact ih _ _ (by omega) (by simp)
    · simpa using hr
theorem toList_ne {s : ByteArray} (h : s.size ≠ 0) : s.toList.isEmpty = false := by
  unfold ByteArray.toList
  rw [ByteArray.toList.loop, if_pos (by omega)]
  have := loop_ne s s.size 1 [s.get! 0] (by omega) (by simp)
  cases h2 : ByteArray.toList.loop s (0 + 1) [s.get! 0] with
  | nil => exact absurd h2 this
  | cons a l => rfl
theorem idx_str {s : ByteArray} {k : Nat} (h : k < s.size) (W : World) : (Instr.index 9 (.string s) (.int .i64 (k : Int))).run Tryd.prog W = .ok (.int .u8 (((byL s).getD k 0 : Nat) : Int)) W := by
  rw [run_index_string W 9 s .i64 _ Tryd.underlying9]
  rw [dif_pos (by omega)]
  have := byL_at h
  simp only [Int.toNat_natCast]
  rw [this]

set_option maxHeartbeats 2000000 in
theorem formed_any (s : ByteArray) (w : World) (hs : s.size ≤ 9223372036854775807) :
    Calls Tryd.prog 55 #[.string s] w fun e w' => e = .returned (.bool (formedL (byL s))) ∧ w = w' := by
  have hlen := byL_len s
  obtain ⟨F, hF⟩ : ∃ F, F = formedL (byL s) := ⟨_, rfl⟩
  rw [← hF]
  have HF := hide hF
  have Hlen := hide hlen
  clear hF hlen
  go_enter Tryd.func55, Tryd.ntmps55
  go_wp2_with fail
  go_loopw [6] (fun k wr => ∃ q : Nat, q ≤ s.size ∧ k = .int .i64 (q : Int) ∧ (∀ j, j < q → isD ((byL s).getD j 0) = true) ∧ w = wr) (fun k wr => s.size - (intOf k).toNat)
  case atStart => exact ⟨0, Nat.zero_le _, rfl, fun j h => absurd h (by omega), rfl⟩
  case round =>
    obtain ⟨q, hq, rfl, hall, rfl⟩ := hrel
    by_cases hlt : q < s.size
    · have hidx := idx_str hlt
      have hnext : isD ((byL s).getD q 0) = true → ∀ j, j < q + 1 → isD ((byL s).getD j 0) = true := fun h j hj => by
        by_cases e : j = q
        · subst e; exact h
        · exact hall j (by omega)
      have hbad : ¬ isD ((byL s).getD q 0) = true → F = false := fun h => by
        rw [HF.out]
        cases hf : formedL (byL s) with
        | false => rfl
        | true => exact absurd ((formedL_iff.1 hf).2 q (by rw [Hlen.out]; exact hlt)) h
      rw [isD_iff] at hnext hbad
      generalize (byL s).getD q 0 = c at *
      have Hnext := hide hnext
      have Hbad := hide hbad
      have hqi : (q : Int) < (s.size : Int) := by omega
      clear hnext hbad hall
      by_cases g1 : c < 48
      · have e1 : decide ((c : Int) < 48) = true := decide_eq_true (by omega)
        have hFF := Hbad.out (by omega)
        subst hFF
        clear Hnext Hbad HF
        go_wp2_with fail
        go_ret
        exact ⟨rfl, rfl⟩
      · have e1 : decide ((c : Int) < 48) = false := decide_eq_false (by omega)
        by_cases g2 : 57 < c
        · have e2 : decide (57 < (c : Int)) = true := decide_eq_true (by omega)
          have hFF := Hbad.out (by omega)
          subst hFF
          clear Hnext Hbad HF
          go_wp2_with fail
          go_ret
          exact ⟨rfl, rfl⟩
        · have e2 : decide (57 < (c : Int)) = false := decide_eq_false (by omega)
          clear Hbad
          go_wp2_with fail
          go_roundw
          case rel => exact ⟨q + 1, by omega, by go_num, Hnext.out ⟨by omega, by omega⟩, by first | rfl | trivial⟩
          case measure => simp [intOf]; omega
    · obtain rfl : q = s.size := by omega
      by_cases h0 : s.size = 0
      · have hse : s = ⟨#[]⟩ := by
          obtain ⟨d⟩ := s
          congr 1
          exact Array.eq_empty_of_size_eq_zero h0
        have hFF : F = false := by rw [HF.out, hse]; rfl
        subst hFF
        subst hse
        clear HF hall Hlen
        go_wp2_with fail
        go_ret
        exact ⟨rfl, rfl⟩
      · have hFF : F = true := by
          rw [HF.out]
          exact formedL_iff.2 ⟨by rw [Hlen.out]; omega, fun k hk => hall k (by rw [← Hlen.out]; exact hk)⟩
        have hse := toList_ne h0
        subst hFF
        clear HF hall Hlen
        go_wp2_with fail
        go_ret
        exact ⟨by simp [hse], rfl⟩

/-- what digits hands back -/
def digP (l : List Nat) (most : Nat) : Nat × Bool := if valL l ≤ most then (valL l, true) else (0, false)
set_option maxHeartbeats 2000000 in
theorem digits_any (s : ByteArray) (most : Nat) (w : World) (hs : s.size ≤ 9223372036854775807) (hf : formedL (byL s) = true) (h9 : 9 ≤ most) (hm : most ≤ 9223372036854775808) :
    Calls Tryd.prog 56 #[.string s, .int .u64 (most : Int)] w fun e w' => e = .returned (.tuple #[.int .u64 ((digP (byL s) most).1 : Int), .bool (digP (byL s) most).2]) ∧ w = w' := by
  have hlen := byL_len s
  obtain ⟨F, hF⟩ : ∃ F, F = digP (byL s) most := ⟨_, rfl⟩
  rw [← hF]
  have hd := fun k (hk : k < s.size) => formedL_at hf (k := k) (by rw [hlen]; exact hk)
  have hvt := fun k (hk : k < s.size) => valL_take (l := byL s) (k := k) (by rw [hlen]; exact hk)
  have hvp := valL_prefix (byL s)
  have hva : valL ((byL s).take s.size) = valL (byL s) := by rw [List.take_of_length_le (by omega)]
  have HF := hide hF
  have Hlen := hide hlen
  have Hd := hide hd
  have Hvt := hide hvt
  have Hvp := hide hvp
  have Hva := hide hva
  clear hF hlen hf hd hvt hvp hva
  go_enter Tryd.func56, Tryd.ntmps56
  go_wp2_with fail
  go_loopw [6, 11] (fun n k wr => ∃ q : Nat, q ≤ s.size ∧ k = .int .i64 (q : Int) ∧ n = .int .u64 (valL ((byL s).take q) : Int) ∧ valL ((byL s).take q) ≤ most ∧ w = wr) (fun n k wr => s.size - (intOf k).toNat)
  case atStart => exact ⟨0, Nat.zero_le _, rfl, rfl, Nat.zero_le _, rfl⟩
  case round =>
    obtain ⟨q, hq, rfl, rfl, hv, rfl⟩ := hrel
    by_cases hlt : q < s.size
    · have hidx := idx_str hlt
      obtain ⟨hc1, hc2⟩ := Hd.out q hlt
      have hvt := Hvt.out q hlt
      have hvp := Hvp.out (q + 1)
      generalize (byL s).getD q 0 = c at *
      obtain ⟨d, rfl⟩ : ∃ d, c = d + 48 := ⟨c - 48, by omega⟩
      rw [Nat.add_sub_cancel] at hvt
      have hd9 : d ≤ 9 := by omega
      rw [show ((d + 48 : Nat) : Int) = (d : Int) + 48 by omega] at hidx
      have Hvt2 := hide hvt
      have Hvp2 := hide hvp
      have Hv := hide hv
      have hw8 : IntKind.u8.wrap ((d : Int) + 48 - 48) = (d : Int) := by
        simp [IntKind.wrap, IntKind.bits, IntKind.signed]; omega
      generalize valL ((byL s).take q) = n at *
      have hqi : (q : Int) < (s.size : Int) := by omega
      have hwd : IntKind.u64.wrap (d : Int) = (d : Int) := by simp [IntKind.wrap, IntKind.bits, IntKind.signed]; omega
      have hwm : IntKind.u64.wrap ((most : Int) - (d : Int)) = ((most - d : Nat) : Int) := by simp [IntKind.wrap, IntKind.bits, IntKind.signed]; omega
      clear hvt hvp hv
      by_cases g : n * 10 + d ≤ most
      · have e : decide (((most - d : Nat) : Int) / 10 < (n : Int)) = false := decide_eq_false (by omega)
        have e' : ¬ ((most - d : Nat) : Int) / 10 < (n : Int) := by omega
        have hwn : IntKind.u64.wrap ((n : Int) * 10) = (n : Int) * 10 := by simp [IntKind.wrap, IntKind.bits, IntKind.signed]; omega
        have hwn2 : IntKind.u64.wrap ((n : Int) * 10 + (d : Int)) = (n : Int) * 10 + (d : Int) := by simp [IntKind.wrap, IntKind.bits, IntKind.signed]; omega
        go_wp2_with fail
        go_roundw
        case rel => exact ⟨q + 1, by omega, by go_num, by rw [Hvt2.out]; simp, by rw [Hvt2.out]; exact g, by first | rfl | trivial⟩
        case measure => simp [intOf]; omega
      · have e : decide (((most - d : Nat) : Int) / 10 < (n : Int)) = true := decide_eq_true (by omega)
        have e' : ((most - d : Nat) : Int) / 10 < (n : Int) := by omega
        have hFF : F = (0, false) := by
          rw [HF.out]
          unfold digP
          rw [if_neg (by have := Hvp2.out; rw [Hvt2.out] at this; omega)]
        subst hFF
        clear HF
        go_wp2_with fail
        go_ret2
        exact ⟨rfl, rfl⟩
    · obtain rfl : q = s.size := by omega
      rw [Hva.out] at hv ⊢
      have hFF : F = (valL (byL s), true) := by
        rw [HF.out]
        unfold digP
        rw [if_pos hv]
      subst hFF
      clear HF
      go_wp2_with fail
      go_ret2
      exact ⟨rfl, rfl⟩

theorem wrapu2 (x : Int) : IntKind.u64.wrap x = x % 18446744073709551616 := by
  simp [IntKind.wrap, IntKind.bits, IntKind.signed]
theorem byL_drop (s : ByteArray) : byL (s.extract 1 s.size) = (byL s).drop 1 := by
  unfold byL
  rw [← List.map_drop]
  congr 1
  simp [ByteArray.data_extract, Array.toList_extract, List.extract]
  exact List.take_of_length_le (by rw [List.length_tail, Array.length_toList]; exact Nat.le_refl _)
set_option maxHeartbeats 2000000 in
theorem numRead_any (s : ByteArray) (w : World) (hs : s.size ≤ 9223372036854775807) :
    Calls Tryd.prog 46 #[.string s] w fun e w' => e = .returned (.tuple #[.int .i64 (readL (byL s)).1, .int .i64 (readL (byL s)).2]) ∧ w = w' := by
  have hlen := byL_len s
  by_cases h0 : s.size = 0
  · have hl0 : byL s = [] := List.eq_nil_of_length_eq_zero (by omega)
    have hse : s = ⟨#[]⟩ := by
      obtain ⟨d⟩ := s
      congr 1
      exact Array.eq_empty_of_size_eq_zero h0
    have hfm := formed_any s w hs
    rw [hl0] at hfm ⊢
    rw [show formedL [] = false from rfl] at hfm
    rw [show readL [] = (0, 17) from rfl]
    subst hse
    have Hfm := hide hfm
    clear hfm hlen hl0
    go_enter Tryd.func46, Tryd.ntmps46
    go_wp2_with (go_at_call 55; refine Hfm.out.mono ?_; rintro e w2 ⟨rfl, rfl⟩)
    go_ret2
    exact ⟨rfl, rfl⟩
  · have hse := toList_ne h0
    have hidx : ∀ W : World, (Instr.index 9 (.string s) (.int .i64 0)).run Tryd.prog W = .ok (.int .u8 (((byL s).getD 0 0 : Nat) : Int)) W := idx_str (k := 0) (by omega)
    have hne : (byL s).isEmpty = false := by cases h : byL s with | nil => rw [h] at hlen; simp at hlen; omega | cons a l => rfl
    by_cases hneg : (byL s).getD 0 0 = 45
    · have hN : negL (byL s) = true := by unfold negL; rw [hne, decide_eq_true hneg]; rfl
      have hR : readL (byL s) = signed true ((byL s).drop 1) := by unfold readL; rw [if_pos hN]
      rw [hR]
      rw [hneg] at hidx
      have hfm := formed_any (s.extract 1 s.size) w (by first | omega | (simp; omega))
      have hdg := fun hf => digits_any (s.extract 1 s.size) 9223372036854775808 w (by first | omega | (simp; omega)) hf (by omega) (by omega)
      rw [byL_drop] at hfm hdg
      generalize (byL s).drop 1 = l at *
      cases hf : formedL l with
      | false =>
        rw [hf] at hfm
        have hS : signed true l = (0, 17) := by unfold signed; rw [if_pos hf]
        rw [hS]
        have Hfm := hide hfm
        clear hfm hdg hlen hN hR hne hf hS
        go_enter Tryd.func46, Tryd.ntmps46
        go_wp2_with (go_at_call 55; refine Hfm.out.mono ?_; rintro e w2 ⟨rfl, rfl⟩)
        go_ret2
        exact ⟨rfl, rfl⟩
      | true =>
        rw [hf] at hfm
        have hdg := hdg hf
        unfold digP at hdg
        by_cases g : valL l ≤ 9223372036854775808
        · rw [if_pos g] at hdg
          have hS : signed true l = (-(valL l : Int), 0) := by unfold signed; rw [if_neg (by rw [hf]; simp), if_neg (by simp; omega)]; simp
          rw [hS]
          obtain ⟨n, hn⟩ : ∃ n, n = valL l := ⟨_, rfl⟩
          rw [← hn] at hdg g ⊢
          have hw1 : IntKind.u64.wrap (-(n : Int)) = (18446744073709551616 - (n : Int)) % 18446744073709551616 := by rw [wrapu2]; omega
          have hw2 : wrap64 ((18446744073709551616 - (n : Int)) % 18446744073709551616) = -(n : Int) := by unfold wrap64; omega
          have Hfm := hide hfm
          have Hdg := hide hdg
          clear hfm hdg hlen hN hR hne hf hS hn
          go_enter Tryd.func46, Tryd.ntmps46
          go_wp2_with (first
            | (go_at_call 55; refine Hfm.out.mono ?_; rintro e w2 ⟨rfl, rfl⟩)
            | (go_at_call 56; refine Hdg.out.mono ?_; rintro e w2 ⟨rfl, rfl⟩))
          go_ret2
          exact ⟨by first | rfl | (simp [hw1, hw2]; unfold wrap64; omega), rfl⟩
        · rw [if_neg g] at hdg
          have hS : signed true l = (0, 2) := by unfold signed; rw [if_neg (by rw [hf]; simp), if_pos (by simp; omega)]
          rw [hS]
          have Hfm := hide hfm
          have Hdg := hide hdg
          clear hfm hdg hlen hN hR hne hf hS g
          go_enter Tryd.func46, Tryd.ntmps46
          go_wp2_with (first
            | (go_at_call 55; refine Hfm.out.mono ?_; rintro e w2 ⟨rfl, rfl⟩)
            | (go_at_call 56; refine Hdg.out.mono ?_; rintro e w2 ⟨rfl, rfl⟩))
          go_ret2
          exact ⟨rfl, rfl⟩
    · have hN : negL (byL s) = false := by unfold negL; rw [hne, decide_eq_false hneg]; rfl
      have hR : readL (byL s) = signed false (byL s) := by unfold readL; rw [if_neg (by rw [hN]; simp)]
      rw [hR]
      have hb := byL_lt s 0
      generalize (byL s).getD 0 0 = c0 at *
      have e45 : ((c0 : Int) == 45) = false := by rw [beq_eq_false_iff_ne]; omega
      have hfm := formed_any s w (by first | omega | (simp; omega))
      have hdg := fun hf => digits_any s 9223372036854775807 w (by first | omega | (simp; omega)) hf (by omega) (by omega)
      obtain ⟨l, hll⟩ : ∃ l, l = byL s := ⟨_, rfl⟩
      rw [← hll] at hfm hdg ⊢
      cases hf : formedL l with
      | false =>
        rw [hf] at hfm
        have hS : signed false l = (0, 17) := by unfold signed; rw [if_pos hf]
        rw [hS]
        have Hfm := hide hfm
        clear hfm hdg hlen hN hR hne hf hS
        go_enter Tryd.func46, Tryd.ntmps46
        go_wp2_with (go_at_call 55; refine Hfm.out.mono ?_; rintro e w2 ⟨rfl, rfl⟩)
        go_ret2
        exact ⟨rfl, rfl⟩
      | true =>
        rw [hf] at hfm
        have hdg := hdg hf
        unfold digP at hdg
        by_cases g : valL l ≤ 9223372036854775807
        · rw [if_pos g] at hdg
          have hS : signed false l = ((valL l : Int), 0) := by unfold signed; rw [if_neg (by rw [hf]; simp), if_neg (by simp; omega)]; simp
          rw [hS]
          obtain ⟨n, hn⟩ : ∃ n, n = valL l := ⟨_, rfl⟩
          rw [← hn] at hdg g ⊢
          have hw2 : wrap64 (n : Int) = (n : Int) := by unfold wrap64; omega
          have Hfm := hide hfm
          have Hdg := hide hdg
          clear hfm hdg hlen hN hR hne hf hS hn
          go_enter Tryd.func46, Tryd.ntmps46
          go_wp2_with (first
            | (go_at_call 55; refine Hfm.out.mono ?_; rintro e w2 ⟨rfl, rfl⟩)
            | (go_at_call 56; refine Hdg.out.mono ?_; rintro e w2 ⟨rfl, rfl⟩))
          go_ret2
          exact ⟨by first | rfl | simp [hw2] | simp_all, rfl⟩
        · rw [if_neg g] at hdg
          have hS : signed false l = (0, 2) := by unfold signed; rw [if_neg (by rw [hf]; simp), if_pos (by simp; omega)]
          rw [hS]
          have Hfm := hide hfm
          have Hdg := hide hdg
          clear hfm hdg hlen hN hR hne hf hS g
          go_enter Tryd.func46, Tryd.ntmps46
          go_wp2_with (first
            | (go_at_call 55; refine Hfm.out.mono ?_; rintro e w2 ⟨rfl, rfl⟩)
            | (go_at_call 56; refine Hdg.out.mono ?_; rintro e w2 ⟨rfl, rfl⟩))
          go_ret2
          exact ⟨rfl, rfl⟩
end
section
open Go.RowKit

theorem wrap_in64 {x : Int} (h : -9223372036854775808 ≤ x ∧ x ≤ 9223372036854775807) : wrap64 x = x := by unfold wrap64; omega
theorem wrapu8 (x : Int) : IntKind.u8.wrap x = x % 256 := by
  simp [IntKind.wrap, IntKind.bits, IntKind.signed]
/-- the digits told so far -/
def PrI (u m : Nat) (L : List UInt8) : Prop := (m = 0 → L = Lib.decDigits u) ∧ (0 < m → Lib.decDigits m ++ L = Lib.decDigits u)
theorem PrI.step {u m : Nat} {L : List UInt8} (h : PrI u m L) (hm : 0 < m) : PrI u (m / 10) (UInt8.ofNat (48 + m % 10) :: L) := by
  have h2 := h.2 hm
  by_cases h10 : m < 10
  · have e : m / 10 = 0 := by omega
    rw [e]
    refine ⟨fun _ => ?_, fun h => by omega⟩
    rw [Lib.decDigits_one h10] at h2
    rw [show m % 10 = m by omega]
    simpa using h2
  · refine ⟨fun h => by omega, fun _ => ?_⟩
    rw [Lib.decDigits, dif_neg h10] at h2
    rw [← h2]; simp

theorem conv_one (w : World) (d : Nat) (hd : d ≤ 9) : (convert 81 9 (.slice (some ⟨w.heap.size, 0, none⟩) 1 1)).run Tryd.prog (w.alloc (.cells #[.int .u8 (48 + (d : Int))] 5)) = .ok (.string ⟨#[UInt8.ofNat (48 + d)]⟩) (w.alloc (.cells #[.int .u8 (48 + (d : Int))] 5)) := by
  refine run_convert_bytes_back (P := Tryd.prog) _ 81 9 5 ⟨w.heap.size, 0, none⟩ 1 [UInt8.ofNat (48 + d)] Tryd.underlying81 Tryd.underlying5 Tryd.underlying9 (fun j hj => ?_)
  obtain rfl : j = 0 := by simp at hj; omega
  rw [addAddr0, (Blk.new w 5 #[.int .u8 (48 + (d : Int))]).cell 0]
  have h : (UInt8.ofNat (48 + d)).toNat = 48 + d := by simp [UInt8.toNat_ofNat]; omega
  simp only [List.getElem_cons_zero, h]
  simp
theorem nDig_le : ∀ (k u : Nat), u < 10 ^ (k + 1) → Lib.nDigits u ≤ k + 1
  | 0, u, h => by rw [Lib.nDigits_small (by simpa using h)]; exact Nat.le_refl _
  | k + 1, u, h => by
    by_cases h10 : u < 10
    · rw [Lib.nDigits_small h10]; omega
    · rw [Lib.nDigits_big h10]
      have := nDig_le k (u / 10) (by rw [Nat.pow_succ] at h; omega)
      omega
theorem PrI.len {u m : Nat} {L : List UInt8} (h : PrI u m L) (hu : u ≤ 9223372036854775808) : L.length ≤ 20 := by
  have h1 := nDig_le 19 u (by omega)
  rw [← Lib.decDigits_length] at h1
  rcases Nat.eq_zero_or_pos m with h0 | h0
  · rw [h.1 h0]; exact h1
  · rw [← h.2 h0, List.length_append] at h1; omega

set_option maxRecDepth 100000 in
set_option maxHeartbeats 4000000 in
theorem refPrint_any (n : Int) (w : World) (hn : -9223372036854775808 ≤ n ∧ n ≤ 9223372036854775807) :
    Calls Tryd.prog 36 #[.int .i64 n] w fun e w' => e = .returned (.string ⟨(Lib.itoa n).toArray⟩) ∧ Below w.heap.size w w' := by
  obtain ⟨hn1, hn2⟩ := hn
  by_cases h0 : n = 0
  · subst h0
    have e0 : ((0 : Int) == 0) = true := rfl
    have hd : (⟨(Lib.itoa 0).toArray⟩ : ByteArray) = ⟨#[48]⟩ := by decide +kernel
    rw [hd]
    go_enter Tryd.func36, Tryd.ntmps36
    go_wp2_with fail
    go_ret
    exact ⟨rfl, Below.refl _ _⟩
  · have e0 : (n == 0) = false := by rw [beq_eq_false_iff_ne]; exact h0
    by_cases hneg : n < 0
    · obtain ⟨u, hu⟩ : ∃ u : Nat, n = -(u : Int) := ⟨n.natAbs, by omega⟩
      subst hu
      have hu0 : 0 < u := by omega
      have hit : Lib.itoa (-(u : Int)) = 45 :: Lib.decDigits u := Lib.itoa_neg u hu0
      rw [hit]
      have e1 : decide (-(u : Int) < 0) = true := decide_eq_true (by omega)
      have e1' : -(u : Int) < 0 := by omega
      clear h0 hneg hit
      go_enter Tryd.func36, Tryd.ntmps36
      go_wp2_with fail
      go_loopw [0, 3] (fun x t wr => ∃ (m : Nat) (S : ByteArray), m ≤ u ∧ x = .int .i64 (-(m : Int)) ∧ t = .string S ∧ PrI u m S.data.toList ∧ Below w.heap.size w wr) (fun x t wr => (intOf x).natAbs)
      case atStart => exact ⟨u, ⟨#[]⟩, Nat.le_refl _, rfl, rfl, ⟨fun h => absurd h (by omega), fun _ => by simp⟩, Below.refl _ _⟩
      case round =>
        obtain ⟨m, S, hm, rfl, rfl, hP, hb⟩ := hrel
        have hS : S.size ≤ 20 := by have := hP.len (by omega); rw [Array.length_toList] at this; exact this
        by_cases hm0 : m = 0
        · subst hm0
          have hL := hP.1 rfl
          have HL := hide hL
          have Hb := hide hb
          clear hP hL hb
          go_wp2_with fail
          go_ret
          have hfin : (⟨#[45]⟩ : ByteArray) ++ S = ⟨(45 :: Lib.decDigits u).toArray⟩ := by
            apply ByteArray.ext
            apply Array.ext'
            simp [ByteArray.data_append, HL.out]
          exact ⟨by show Ending.returned (Value.string ((⟨#[45]⟩ : ByteArray) ++ S)) = _; rw [hfin], Hb.out⟩
        · have e2 : (-(m : Int) != 0) = true := by rw [bne_iff_ne]; omega
          have hz0 : (-(m : Int)).tmod 10 = -((m % 10 : Nat) : Int) := by rw [Int.neg_tmod, Int.tmod_eq_emod_of_nonneg (by omega)]; simp
          have hy0 : (-(m : Int)).tdiv 10 = -((m / 10 : Nat) : Int) := by rw [Int.neg_tdiv, Int.tdiv_eq_ediv_of_nonneg (by omega)]; simp
          have hP2 := hP.step (by omega)
          have HP := hide hP2
          have Hb := hide hb
          have hd9 : m % 10 ≤ 9 := by omega
          generalize m % 10 = d at *
          have hcv := conv_one wr d hd9
          generalize UInt8.ofNat (48 + d) = c at *
          obtain ⟨y, hy⟩ : ∃ y, y = (-(m : Int)).tdiv 10 := ⟨_, rfl⟩
          obtain ⟨z, hz⟩ : ∃ z, z = (-(m : Int)).tmod 10 := ⟨_, rfl⟩
          obtain ⟨x, hx⟩ : ∃ x, x = -(m : Int) := ⟨_, rfl⟩
          rw [hy0] at hy
          rw [hz0] at hz
          rw [← hx] at hz0 hy0 e2 ⊢
          rw [← hy] at hy0
          rw [← hz] at hz0
          have hwy := wrap_in64 (x := y) (by omega)
          have hmeas : y.natAbs < x.natAbs := by omega
          have HY := hide hy
          have HX := hide hx
          have HM := hide hmeas
          clear hP hP2 hb hy hx hmeas
          by_cases hd0 : d = 0
          · subst hd0
            have hzz : z = 0 := by rw [hz]; rfl
            subst hzz
            have hcv : (convert 81 9 (.slice (some ⟨wr.heap.size, 0, none⟩) 1 1)).run Tryd.prog (wr.alloc (.cells #[.int .u8 48] 5)) = .ok (.string ⟨#[c]⟩) (wr.alloc (.cells #[.int .u8 48] 5)) := hcv
            clear hz
            go_wp2_with fail
            all_goals (try (exfalso; omega))
            go_roundw
            case rel =>
              refine ⟨m / 10, ⟨#[c]⟩ ++ S, by omega, by first | rw [hwy, HY.out] | rw [HY.out], rfl, ?_, Hb.out.alloc Hb.out.size _⟩
              have h2 := HP.out
              simpa [ByteArray.data_append] using h2
            case measure => have h9 := HM.out; simp [intOf, hwy]; omega
          · have hz1 : z < 0 := by omega
            have e3 : decide (z < 0) = true := decide_eq_true hz1
            have hwz : wrap64 (-z) = (d : Int) := by rw [wrap_in64 (by omega)]; omega
            have hw8 : IntKind.u8.wrap (48 + (d : Int)) = 48 + (d : Int) := by rw [wrapu8]; omega
            have hwd := wrap_in64 (x := 48 + (d : Int)) (by omega)
            rw [← hwz] at hcv hw8 hwd
            clear hz hwz
            go_wp2_with fail
            all_goals (try (exfalso; omega))
            go_roundw
            case rel =>
              refine ⟨m / 10, ⟨#[c]⟩ ++ S, by omega, by first | rw [hwy, HY.out] | rw [HY.out], rfl, ?_, Hb.out.alloc Hb.out.size _⟩
              have h2 := HP.out
              simpa [ByteArray.data_append] using h2
            case measure => have h9 := HM.out; simp [intOf, hwy]; omega
    · obtain ⟨u, hu⟩ : ∃ u : Nat, n = (u : Int) := ⟨n.natAbs, by omega⟩
      subst hu
      have hu0 : 0 < u := by omega
      have hit : Lib.itoa ((u : Int)) = Lib.decDigits u := Lib.itoa_nonneg u
      rw [hit]
      have e1 : decide ((u : Int) < 0) = false := decide_eq_false (by omega)
      have e1' : ¬ (u : Int) < 0 := by omega
      clear h0 hneg hit
      go_enter Tryd.func36, Tryd.ntmps36
      go_wp2_with fail
      go_loopw [0, 3] (fun x t wr => ∃ (m : Nat) (S : ByteArray), m ≤ u ∧ x = .int .i64 ((m : Int)) ∧ t = .string S ∧ PrI u m S.data.toList ∧ Below w.heap.size w wr) (fun x t wr => (intOf x).natAbs)
      case atStart => exact ⟨u, ⟨#[]⟩, Nat.le_refl _, rfl, rfl, ⟨fun h => absurd h (by omega), fun _ => by simp⟩, Below.refl _ _⟩
      case round =>
        obtain ⟨m, S, hm, rfl, rfl, hP, hb⟩ := hrel
        have hS : S.size ≤ 20 := by have := hP.len (by omega); rw [Array.length_toList] at this; exact this
        by_cases hm0 : m = 0
        · subst hm0
          have hL := hP.1 rfl
          have HL := hide hL
          have Hb := hide hb
          clear hP hL hb
          go_wp2_with fail
          go_ret
          have hfin : (⟨#[]⟩ : ByteArray) ++ S = ⟨(Lib.decDigits u).toArray⟩ := by
            apply ByteArray.ext
            apply Array.ext'
            simp [ByteArray.data_append, HL.out]
          exact ⟨by show Ending.returned (Value.string ((⟨#[]⟩ : ByteArray) ++ S)) = _; rw [hfin], Hb.out⟩
        · have e2 : ((m : Int) != 0) = true := by rw [bne_iff_ne]; omega
          have ht : (m : Int).tmod 10 = ((m % 10 : Nat) : Int) := by rw [Int.tmod_eq_emod_of_nonneg (by omega)]; simp
          have htd : (m : Int).tdiv 10 = ((m / 10 : Nat) : Int) := by rw [Int.tdiv_eq_ediv_of_nonneg (by omega)]; simp
          have e3 : decide (((m % 10 : Nat) : Int) < 0) = false := decide_eq_false (by omega)
          have hP2 := hP.step (by omega)
          have HP := hide hP2
          have Hb := hide hb
          have hd9 : m % 10 ≤ 9 := by omega
          generalize m % 10 = d at *
          have hw8 : IntKind.u8.wrap (48 + (d : Int)) = 48 + (d : Int) := by rw [wrapu8]; omega
          have hwd := wrap_in64 (x := 48 + (d : Int)) (by omega)
          have hwdd := wrap_in64 (x := (d : Int)) (by omega)
          have hcv := conv_one wr d hd9
          generalize UInt8.ofNat (48 + d) = c at *
          clear hP hP2 hb
          go_wp2_with fail
          all_goals (try (exfalso; omega))
          go_roundw
          case rel =>
            refine ⟨m / 10, ⟨#[c]⟩ ++ S, by omega, by first | rfl | (simp; done) | (congr 1; omega), rfl, ?_, Hb.out.alloc Hb.out.size _⟩
            have h2 := HP.out
            simpa [ByteArray.data_append] using h2
          case measure => simp [intOf]; omega
def nums (l : List UInt8) : List Nat := l.map UInt8.toNat
theorem formedL_snoc {l : List Nat} {b : Nat} (h : formedL l = true) (hb : isD b = true) : formedL (l ++ [b]) = true := by
  unfold formedL at h ⊢
  simp only [Bool.and_eq_true, List.all_eq_true] at h ⊢
  refine ⟨by simp, fun x hx => ?_⟩
  rcases List.mem_append.1 hx with hx | hx
  · exact h.2 x hx
  · simp at hx; subst hx; exact hb
theorem ofNat_dig {d : Nat} (h : d ≤ 9) : (UInt8.ofNat (48 + d)).toNat = 48 + d := by
  rw [UInt8.toNat_ofNat']
  omega
theorem dec_read : ∀ (k u : Nat), u ≤ k → valL (nums (Lib.decDigits u)) = u ∧ formedL (nums (Lib.decDigits u)) = true ∧ (nums (Lib.decDigits u)).getD 0 0 ≠ 45 := by
  intro k
  induction k with
  | zero =>
    intro u h
    obtain rfl : u = 0 := by omega
    decide +kernel
  | succ k ih =>
    intro u h
    by_cases h10 : u < 10
    · rw [Lib.decDigits_one h10]
      have e : nums [UInt8.ofNat (48 + u)] = [48 + u] := by unfold nums; rw [List.map_cons, ofNat_dig (by omega)]; rfl
      rw [e]
      refine ⟨?_, ?_, ?_⟩
      · simp [valL]
      · unfold formedL isD; simp; omega
      · simp; omega
    · obtain ⟨h1, h2, h3⟩ := ih (u / 10) (by omega)
      rw [Lib.decDigits, dif_neg h10]
      have e : nums (Lib.decDigits (u / 10) ++ [UInt8.ofNat (48 + u % 10)]) = nums (Lib.decDigits (u / 10)) ++ [48 + u % 10] := by
        unfold nums; rw [List.map_append, List.map_cons, ofNat_dig (by omega)]; rfl
      rw [e]
      refine ⟨?_, formedL_snoc h2 (isD_iff.2 ⟨by omega, by omega⟩), ?_⟩
      · rw [valL_snoc, h1]; omega
      · have hl := (formedL_iff.1 h2).1
        rw [List.getD, List.getElem?_append_left hl]
        exact h3
theorem itoa_read {n : Int} (h : -9223372036854775808 ≤ n ∧ n ≤ 9223372036854775807) : readL (nums (Lib.itoa n)) = (n, 0) := by
  by_cases hneg : n < 0
  · obtain ⟨u, rfl⟩ : ∃ u : Nat, n = -(u : Int) := ⟨n.natAbs, by omega⟩
    obtain ⟨h1, h2, _⟩ := dec_read u u (Nat.le_refl _)
    rw [Lib.itoa_neg u (by omega)]
    have e : nums (45 :: Lib.decDigits u) = 45 :: nums (Lib.decDigits u) := rfl
    rw [e]
    unfold readL
    rw [if_pos (by rfl)]
    unfold signed
    rw [List.drop_one, List.tail_cons, h1, if_neg (by rw [h2]; simp), if_neg (by simp; omega)]
    simp
  · obtain ⟨u, rfl⟩ := Int.eq_ofNat_of_zero_le (show 0 ≤ n by omega)
    obtain ⟨h1, h2, h3⟩ := dec_read u u (Nat.le_refl _)
    rw [Lib.itoa_nonneg]
    unfold readL negL
    rw [decide_eq_false h3, Bool.and_false, if_neg (by simp)]
    unfold signed
    rw [h1, if_neg (by rw [h2]; simp), if_neg (by simp; omega)]
    simp
end
section
open Go.RowKit
theorem tyA_32 : tyAgg Tryd.prog 32 = true := by kernel_rfl
theorem tyS_32 : tySize Tryd.prog 32 = 10 := by kernel_rfl
theorem tyE_33 : tyElem Tryd.prog 33 = (3, 1) := by kernel_rfl
theorem tyK_33 : tyK Tryd.prog 33 = TyK.slice := by kernel_rfl
theorem tyK_3 : tyK Tryd.prog 3 = TyK.int := by kernel_rfl
theorem tyF_32_5 : fOff Tryd.prog 32 5 = some 5 := by kernel_rfl
theorem tyA_26 : tyAgg Tryd.prog 26 = false := by kernel_rfl
theorem tyS_26 : tySize Tryd.prog 26 = 1 := by kernel_rfl
theorem tyE_26 : tyElem Tryd.prog 26 = (37, 5) := by kernel_rfl
theorem tyK_26 : tyK Tryd.prog 26 = TyK.slice := by kernel_rfl
theorem tyF_37_4 : fOff Tryd.prog 37 4 = some 4 := by kernel_rfl
theorem tyA_3 : tyAgg Tryd.prog 3 = false := by kernel_rfl
theorem tyS_3 : tySize Tryd.prog 3 = 1 := by kernel_rfl
theorem tyA_41 : tyAgg Tryd.prog 41 = true := by kernel_rfl
theorem tyS_41 : tySize Tryd.prog 41 = 5 := by kernel_rfl
theorem tyK_9 : tyK Tryd.prog 9 = TyK.str := by kernel_rfl
theorem tyE_9 : tyElem Tryd.prog 9 = (0, 0) := by kernel_rfl
theorem tyZ_41 : tyZero Tryd.prog 41 = some (Value.agg #[Value.slice none 0 0, Value.int IntKind.i64 0, Value.int IntKind.i64 0, Value.slice none 0 0, Value.slice none 0 0]) := by kernel_rfl
theorem tyK_45 : tyK Tryd.prog 45 = TyK.int := by kernel_rfl
theorem tyB_41 : tyParts Tryd.prog 41 = some ([(0, 1), (1, 1), (2, 1), (3, 1), (4, 1)], [Value.slice none 0 0, Value.int IntKind.i64 0, Value.int IntKind.i64 0, Value.slice none 0 0, Value.slice none 0 0]) := by kernel_rfl
theorem tyF_41_0 : fOff Tryd.prog 41 0 = some 0 := by kernel_rfl
theorem tyA_23 : tyAgg Tryd.prog 23 = false := by kernel_rfl
theorem tyS_23 : tySize Tryd.prog 23 = 1 := by kernel_rfl
theorem tyE_23 : tyElem Tryd.prog 23 = (2, 1) := by kernel_rfl
theorem tyK_23 : tyK Tryd.prog 23 = TyK.slice := by kernel_rfl
theorem tyF_41_3 : fOff Tryd.prog 41 3 = some 3 := by kernel_rfl
theorem tyA_33 : tyAgg Tryd.prog 33 = false := by kernel_rfl
theorem tyS_33 : tySize Tryd.prog 33 = 1 := by kernel_rfl
theorem tyF_41_4 : fOff Tryd.prog 41 4 = some 4 := by kernel_rfl
theorem tyF_32_7 : fOff Tryd.prog 32 7 = some 7 := by kernel_rfl
theorem tyA_28 : tyAgg Tryd.prog 28 = false := by kernel_rfl
theorem tyS_28 : tySize Tryd.prog 28 = 1 := by kernel_rfl
theorem tyE_28 : tyElem Tryd.prog 28 = (59, 5) := by kernel_rfl
theorem tyK_28 : tyK Tryd.prog 28 = TyK.slice := by kernel_rfl
theorem tyF_32_4 : fOff Tryd.prog 32 4 = some 4 := by kernel_rfl
theorem tyA_25 : tyAgg Tryd.prog 25 = false := by kernel_rfl
theorem tyS_25 : tySize Tryd.prog 25 = 1 := by kernel_rfl
theorem tyE_25 : tyElem Tryd.prog 25 = (180, 2) := by kernel_rfl
theorem tyK_25 : tyK Tryd.prog 25 = TyK.slice := by kernel_rfl
theorem tyF_32_0 : fOff Tryd.prog 32 0 = some 0 := by kernel_rfl
theorem tyA_22 : tyAgg Tryd.prog 22 = false := by kernel_rfl
theorem tyS_22 : tySize Tryd.prog 22 = 1 := by kernel_rfl
theorem tyE_22 : tyElem Tryd.prog 22 = (9, 1) := by kernel_rfl
theorem tyK_22 : tyK Tryd.prog 22 = TyK.slice := by kernel_rfl
theorem tyF_32_2 : fOff Tryd.prog 32 2 = some 2 := by kernel_rfl
theorem tyF_32_1 : fOff Tryd.prog 32 1 = some 1 := by kernel_rfl
theorem tyR_22 : tyRow Tryd.prog 22 = some (9, 1, 16) := by kernel_rfl
theorem tyR_23 : tyRow Tryd.prog 23 = some (2, 1, 8) := by kernel_rfl
theorem tyR_26 : tyRow Tryd.prog 26 = some (37, 5, 64) := by kernel_rfl
theorem tyB_32 : tyParts Tryd.prog 32 = some ([(0, 1), (1, 1), (2, 1), (3, 1), (4, 1), (5, 1), (6, 1), (7, 1), (8, 1), (9, 1)], [Value.slice none 0 0, Value.slice none 0 0, Value.slice none 0 0, Value.slice none 0 0, Value.slice none 0 0, Value.slice none 0 0, Value.slice none 0 0, Value.slice none 0 0, Value.slice none 0 0, Value.slice none 0 0]) := by kernel_rfl
theorem tyZ_32 : tyZero Tryd.prog 32 = some (Value.agg #[Value.slice none 0 0, Value.slice none 0 0, Value.slice none 0 0, Value.slice none 0 0, Value.slice none 0 0, Value.slice none 0 0, Value.slice none 0 0, Value.slice none 0 0, Value.slice none 0 0, Value.slice none 0 0]) := by kernel_rfl
theorem tyA_37 : tyAgg Tryd.prog 37 = true := by kernel_rfl
theorem tyS_37 : tySize Tryd.prog 37 = 5 := by kernel_rfl
theorem tyZ_37 : tyZero Tryd.prog 37 = some (Value.agg #[Value.string ByteArray.empty, Value.int IntKind.i64 0, Value.int IntKind.i64 0, Value.slice none 0 0, Value.int IntKind.i64 0]) := by kernel_rfl
theorem tyF_41_1 : fOff Tryd.prog 41 1 = some 1 := by kernel_rfl
theorem tyF_41_2 : fOff Tryd.prog 41 2 = some 2 := by kernel_rfl
theorem tyA_2 : tyAgg Tryd.prog 2 = false := by kernel_rfl
theorem tyS_2 : tySize Tryd.prog 2 = 1 := by kernel_rfl
theorem tyR_33 : tyRow Tryd.prog 33 = some (3, 1, 8) := by kernel_rfl
theorem tyA_9 : tyAgg Tryd.prog 9 = false := by kernel_rfl
theorem tyS_9 : tySize Tryd.prog 9 = 1 := by kernel_rfl
theorem tyK_2 : tyK Tryd.prog 2 = TyK.int := by kernel_rfl
theorem tyZ_3 : tyZero Tryd.prog 3 = some (Value.int IntKind.i64 0) := by kernel_rfl
end
section
open Go.RowKit

structure Inst where
  op : Int
  la : Int
  ln : Int
  ra : Int
  rn : Int
  n : Int
  u : Int
structure St where
  vals : List Int
  opn : Int
  don : Int
  did : List Int
  cnt : List Int
end
section
open Go.RowKit Go.ChangeShapes Go.WideShapes Go.Deep

/-- S: the blocks that the data may lie in -/
structure Rep (α : Type) where
  size : Nat
  at_ : World → (Nat → Prop) → List Value → α → Prop
  len : ∀ {w : World} {S : Nat → Prop} {cs : List Value} {a : α}, at_ w S cs a → cs.length = size
  keep : ∀ {w w' : World} {S : Nat → Prop} {cs : List Value} {a : α}, at_ w S cs a → (∀ p : Addr, S p.block → w'.cell? p = w.cell? p) → at_ w' S cs a
  mono : ∀ {w : World} {S S' : Nat → Prop} {cs : List Value} {a : α}, at_ w S cs a → (∀ b, S b → S' b) → at_ w S' cs a

/-- the value v of one cell holds the plain value a -/
def Rep.one {α : Type} (r : Rep α) (w : World) (S : Nat → Prop) (v : Value) (a : α) : Prop := r.at_ w S [v] a
/-- the struct's value v holds the plain value a -/
def Rep.agg {α : Type} (r : Rep α) (w : World) (S : Nat → Prop) (v : Value) (a : α) : Prop := ∃ cs : Array Value, v = .agg cs ∧ r.at_ w S cs.toList a

def intR (k : IntKind) : Rep Int where
  size := 1
  at_ := fun _ _ cs n => cs = [.int k n] ∧ (Lit.int k n).wf = true
  len := fun h => by rw [h.1]; rfl
  keep := fun h _ => h
  mono := fun h _ => h
def strR : Rep ByteArray where
  size := 1
  at_ := fun _ _ cs s => cs = [.string s] ∧ s.size ≤ 9223372036854775807
  len := fun h => by rw [h.1]; rfl
  keep := fun h _ => h
  mono := fun h _ => h

/-- the cells of a list of things, one behind the other, at an address -/
def rowAt {α : Type} (r : Rep α) (w : World) (S : Nat → Prop) (b o : Nat) (l : List α) : Prop :=
  ∀ i (h : i < l.length), ∃ cs, (∀ j u, cs[j]? = some u → w.cell? ⟨b, o + i * r.size + j, none⟩ = some u) ∧ r.at_ w S cs l[i]
theorem rowAt_keep {α : Type} {r : Rep α} {w w' : World} {S : Nat → Prop} {b o : Nat} {l : List α} (h : rowAt r w S b o l) (hb : S b) (hk : ∀ p : Addr, S p.block → w'.cell? p = w.cell? p) : rowAt r w' S b o l := by
  intro i hi
  obtain ⟨cs, h1, h2⟩ := h i hi
  exact ⟨cs, fun j u hu => (hk _ hb).trans (h1 j u hu), r.keep h2 hk⟩
theorem rowAt_mono {α : Type} {r : Rep α} {w : World} {S S' : Nat → Prop} {b o : Nat} {l : List α} (h : rowAt r w S b o l) (hB : ∀ b, S b → S' b) : rowAt r w S' b o l := by
  intro i hi
  obtain ⟨cs, h1, h2⟩ := h i hi
  exact ⟨cs, h1, r.mono h2 hB⟩

def sliceR {α : Type} (r : Rep α) : Rep (List α) where
  size := 1
  at_ := fun w S cs l => ∃ A c, cs = [.slice A l.length c] ∧ l.length ≤ c ∧ c ≤ 9223372036854775807 ∧ (0 < l.length → ∃ b o, A = some ⟨b, o, none⟩ ∧ S b ∧ rowAt r w S b o l)
  len := fun ⟨A, c, h, _⟩ => by rw [h]; rfl
  keep := fun ⟨A, c, h1, h2, h3, h4⟩ hk => ⟨A, c, h1, h2, h3, fun hl => by
    obtain ⟨b, o, e, hb, hr⟩ := h4 hl
    exact ⟨b, o, e, hb, rowAt_keep hr hb hk⟩⟩
  mono := fun ⟨A, c, h1, h2, h3, h4⟩ hB => ⟨A, c, h1, h2, h3, fun hl => by
    obtain ⟨b, o, e, hb, hr⟩ := h4 hl
    exact ⟨b, o, e, hB b hb, rowAt_mono hr hB⟩⟩

/-- a struct of two parts -/
def pairR {α β : Type} (r : Rep α) (s : Rep β) : Rep (α × β) where
  size := r.size + s.size
  at_ := fun w S cs x => ∃ c1 c2, cs = c1 ++ c2 ∧ r.at_ w S c1 x.1 ∧ s.at_ w S c2 x.2
  len := fun ⟨c1, c2, h, h1, h2⟩ => by rw [h, List.length_append, r.len h1, s.len h2]
  keep := fun ⟨c1, c2, h, h1, h2⟩ hk => ⟨c1, c2, h, r.keep h1 hk, s.keep h2 hk⟩
  mono := fun ⟨c1, c2, h, h1, h2⟩ hB => ⟨c1, c2, h, r.mono h1 hB, s.mono h2 hB⟩
def nilR : Rep Unit where
  size := 0
  at_ := fun _ _ cs _ => cs = []
  len := fun h => by rw [h]; rfl
  keep := fun h _ => h
  mono := fun h _ => h
theorem Rep.below {α : Type} {r : Rep α} {w w' : World} {S : Nat → Prop} {B' : Nat} {cs : List Value} {a : α} (h : r.at_ w S cs a) (hb : Below B' w w') (hB : ∀ b, S b → b < B') : r.at_ w' S cs a :=
  r.keep h fun p hp => hb.cell (hB _ hp)
theorem Rep.one_below {α : Type} {r : Rep α} {w w' : World} {S : Nat → Prop} {B' : Nat} {v : Value} {a : α} (h : r.one w S v a) (hb : Below B' w w') (hB : ∀ b, S b → b < B') : r.one w' S v a := Rep.below (r := r) h hb hB
/-- an int's range -/
theorem wf_i64 {n : Int} (h : (Lit.int .i64 n).wf = true) : -9223372036854775808 ≤ n ∧ n ≤ 9223372036854775807 := by
  simpa [Lit.wf, IntKind.min, IntKind.max, IntKind.signed, IntKind.bits] using h
theorem wf_i64_mk {n : Int} (h1 : -9223372036854775808 ≤ n) (h2 : n ≤ 9223372036854775807) : (Lit.int .i64 n).wf = true := by
  simp [Lit.wf, IntKind.min, IntKind.max, IntKind.signed, IntKind.bits]; omega

/-! ### the elements of a slice, met in a walk -/
section
variable {α : Type} {r : Rep α} {w w' : World} {S : Nat → Prop} {v : Value} {l : List α}
theorem slice_form (h : (sliceR r).one w S v l) : ∃ A c, v = .slice A l.length c ∧ l.length ≤ c ∧ c ≤ 9223372036854775807 := by
  obtain ⟨A, c, h1, h2, h3, _⟩ := h
  exact ⟨A, c, by simpa using h1, h2, h3⟩
theorem slice_some {A : Option Addr} {n c : Nat} (h : (sliceR r).one w S (.slice A n c) l) (hn : 0 < l.length) : ∃ b o, A = some ⟨b, o, none⟩ ∧ S b ∧ rowAt r w S b o l := by
  obtain ⟨A', c', h1, _, _, h4⟩ := h
  simp at h1
  obtain ⟨rfl, _, _⟩ := h1
  exact h4 hn
theorem slice_at1 (hs : r.size = 1) {b o c : Nat} {n : Nat} (h : (sliceR r).one w S (.slice (some ⟨b, o, none⟩) n c) l) {k : Nat} (hk : k < l.length) : ∃ u, w.cell? ⟨b, o + k, none⟩ = some u ∧ r.at_ w S [u] l[k] := by
  obtain ⟨b', o', e, _, hr⟩ := slice_some h (by omega)
  simp at e
  obtain ⟨rfl, rfl⟩ := e
  obtain ⟨cs, h1, h2⟩ := hr k hk
  have hl := r.len h2
  rw [hs] at hl h1
  match cs, hl with
  | [u], _ => exact ⟨u, by simpa using h1 0 u rfl, h2⟩
theorem slice_nil (w : World) (S : Nat → Prop) (r : Rep α) : (sliceR r).one w S (.slice none 0 0) [] := ⟨none, 0, rfl, Nat.le_refl _, by omega, fun h => absurd h (by simp)⟩
/-- an owned row, seen as a slice of things -/
theorem slice_own {base : Nat} {e : TypeId} {size n : Nat} {xs : List Value} (h : w.ownsRow base e size v n xs) (hs : r.size = size) (hn : n = l.length) (hx : ∀ i (hi : i < l.length), r.at_ w (fun b => base ≤ b ∧ b < w.heap.size) ((xs.drop (i * size)).take size) l[i]) :
    (sliceR r).one w (fun b => base ≤ b ∧ b < w.heap.size) v l := by
  subst hn
  rcases h.2 with ⟨rfl, h0⟩ | ⟨g, cap, cur, rfl, hb, hg, hc, hm, hcs, ht⟩
  · refine ⟨none, 0, by rw [h0], by omega, by omega, fun hl => by omega⟩
  · refine ⟨some ⟨g, 0, none⟩, cap, rfl, hc, by simpa [maxLen] using hm, fun hl => ⟨g, 0, rfl, ⟨hb, (Array.getElem?_eq_some_iff.1 hg).1⟩, fun i hi => ⟨_, fun j u hu => ?_, hx i hi⟩⟩⟩
    have hj : j < size := by
      have := (List.getElem?_eq_some_iff.1 hu).1
      simp at this; omega
    rw [List.getElem?_take, if_pos hj, List.getElem?_drop] at hu
    have := h.cells (g := g) rfl _ u hu
    rw [addAddr0] at this
    rw [hs, Nat.zero_add]
    exact this
theorem slice_own1 {base : Nat} {e : TypeId} {n : Nat} (f : α → Value) (h : w.ownsRow base e 1 v n (l.map f)) (hs : r.size = 1) (hx : ∀ a ∈ l, r.at_ w (fun b => base ≤ b ∧ b < w.heap.size) [f a] a) : (sliceR r).one w (fun b => base ≤ b ∧ b < w.heap.size) v l := by
  have hn : n = l.length := by have := h.1; simp at this; omega
  refine slice_own h hs hn fun i hi => ?_
  have e : (((l.map f).drop (i * 1)).take 1) = [f l[i]] := by
    rw [Nat.mul_one, List.drop_eq_getElem_cons (by simpa using hi)]
    simp
  rw [e]
  exact hx _ (List.getElem_mem hi)
theorem slice_below (h : (sliceR r).one w S v l) {B' : Nat} (hb : Below B' w w') (hB : ∀ b, S b → b < B') : (sliceR r).one w' S v l := Rep.one_below h hb hB
theorem slice_mono (h : (sliceR r).one w S v l) {S' : Nat → Prop} (hB : ∀ b, S b → S' b) : (sliceR r).one w S' v l := Rep.mono (sliceR r) h hB
theorem slice_keep (h : (sliceR r).one w S v l) (hk : ∀ p : Addr, S p.block → w'.cell? p = w.cell? p) : (sliceR r).one w' S v l := Rep.keep (sliceR r) h hk
end
theorem ints_at {w : World} {S : Nat → Prop} {b o c n : Nat} {l : List Int} (h : (sliceR (intR .i64)).one w S (.slice (some ⟨b, o, none⟩) n c) l) {k : Nat} (hk : k < l.length) :
    w.cell? ⟨b, o + k, none⟩ = some (.int .i64 l[k]) ∧ -9223372036854775808 ≤ l[k] ∧ l[k] ≤ 9223372036854775807 := by
  obtain ⟨u, h1, h2⟩ := slice_at1 (r := intR .i64) rfl h hk
  obtain ⟨h2, h3⟩ := h2
  simp at h2
  subst h2
  exact ⟨h1, wf_i64 h3⟩
theorem exists_list {α : Type} {p : Nat → α → Prop} : ∀ {n : Nat}, (∀ i, i < n → ∃ y, p i y) → ∃ l : List α, l.length = n ∧ ∀ i (h : i < l.length), p i l[i] := by
  intro n
  induction n with
  | zero => intro _; exact ⟨[], rfl, fun i h => absurd h (by simp)⟩
  | succ n ih =>
    intro h
    obtain ⟨l, h1, h2⟩ := ih fun i hi => h i (by omega)
    obtain ⟨y, hy⟩ := h n (by omega)
    refine ⟨l ++ [y], by simp [h1], fun i hi => ?_⟩
    by_cases hin : i < l.length
    · rw [List.getElem_append_left hin]; exact h2 i hin
    · have : i = l.length := by simp at hi; omega
      subst this
      rw [List.getElem_append_right (by omega)]
      simpa [h1] using hy

/-! ### arguments open into it -/
def Opens {α : Type} (P : Program) (t : TypeId) (r : Rep α) : Prop := ∀ (H : Type) (enc : TypeId × Value → H) (w : World) (fuel : Nat) (cs : List Value) (x : DataW H × List MemPlace),
  DataW.trod enc P w 0 (fun _ => true) true fuel t cs = some x → ∃ a, r.at_ w (fun b => b < w.heap.size) cs a
section
variable {P : Program}
theorem opens_int {t : TypeId} {k : IntKind} (h : P.underlying t = some (.int k)) : Opens P t (intR k) := by
  intro H enc w fuel cs x hx
  obtain ⟨n, rfl, _, hw⟩ := DataW.trod_int h hx
  exact ⟨n, rfl, hw⟩
theorem opens_slice {α : Type} {t e : TypeId} {r : Rep α} (ht : P.underlying t = some (.slice e)) (hs : P.cellsOf e = r.size) (hp : 0 < r.size) (ho : Opens P e r) : Opens P t (sliceR r) := by
  intro H enc w fuel cs x hx
  rcases Go.Deep.open_slice ht hx with ⟨rfl, _⟩ | ⟨a, len, cap, m, n, D, Pl, rfl, _, hl, hm, hmm, _, hi⟩
  · exact ⟨[], slice_nil _ _ _⟩
  · simp only [if_true] at hmm
    subst hmm
    obtain ⟨l, hll, hl2⟩ := exists_list (n := len) (p := fun i y => ∃ cs', w.cells? 0 (a.add (i * P.cellsOf e)) (P.cellsOf e) = some cs' ∧ r.at_ w (fun b => b < w.heap.size) cs' y) (fun i hil => by
      obtain ⟨cs', h1, h2⟩ := hi i (by omega)
      obtain ⟨y, hy⟩ := ho H enc w n cs' _ h2
      exact ⟨y, cs', h1, hy⟩)
    subst hll
    refine ⟨l, some a, _, rfl, hl, by simpa [maxLen] using hm, fun h0 => ?_⟩
    obtain ⟨cs0, h1, h2⟩ := hl2 0 h0
    obtain ⟨_, hlen, hc⟩ := World.cells?_some h1
    have hc0 := hc 0 (by omega)
    have hlt : 0 < cs0.length := by rw [hlen]; omega
    rw [List.getElem?_eq_getElem hlt] at hc0
    have e0 : (a.add (0 * P.cellsOf e)).add 0 = a := by simp [Addr.add]
    rw [e0] at hc0
    have hb := World.block_lt_of_cell? w a hc0
    have hsp : a.spot = none := by
      unfold World.cell? at hc0
      split at hc0
      · split at hc0
        · cases hc0
        · rename_i h5; simpa using h5
      · cases hc0
    obtain ⟨b, o, sp⟩ := a
    simp only at hsp hb
    subst hsp
    refine ⟨b, o, rfl, hb, fun i hi' => ?_⟩
    obtain ⟨cs', h1, h2⟩ := hl2 i hi'
    refine ⟨cs', fun j u hu => ?_, h2⟩
    obtain ⟨_, hlen', hc'⟩ := World.cells?_some h1
    have hj : j < P.cellsOf e := by
      have := (List.getElem?_eq_some_iff.1 hu).1
      omega
    have := hc' j hj
    rw [hu, Go.Deep.add_add, hs] at this
    rw [← this]
    congr 1
    unfold Addr.add
    split
    · rename_i h6; simp_all
    · simp [Nat.add_assoc]

end
end
section
open Go.RowKit

def ok64 (n : Int) : Prop := -9223372036854775808 ≤ n ∧ n ≤ 9223372036854775807
def Inst.cells (x : Inst) : List Value := [.int .i64 x.op, .int .i64 x.la, .int .i64 x.ln, .int .i64 x.ra, .int .i64 x.rn, .int .i64 x.n, .int .i64 x.u]
def Inst.ok (x : Inst) : Prop := ok64 x.op ∧ ok64 x.la ∧ ok64 x.ln ∧ ok64 x.ra ∧ ok64 x.rn ∧ ok64 x.n ∧ ok64 x.u
def instR : Rep Inst where
  size := 7
  at_ := fun _ _ cs x => cs = x.cells ∧ x.ok
  len := fun h => by rw [h.1]; rfl
  keep := fun h _ => h
  mono := fun h _ => h

structure Item where
  op : Int
  ln : ByteArray
  lv : Int
  rn : ByteArray
  rv : Int
  name : ByteArray
  user : ByteArray
  line : Int
  col : Int
def Item.cells (x : Item) : List Value := [.int .i64 x.op, .string x.ln, .int .i64 x.lv, .string x.rn, .int .i64 x.rv, .string x.name, .string x.user, .int .i64 x.line, .int .i64 x.col]
def Item.ok (x : Item) : Prop := ok64 x.op ∧ ok64 x.lv ∧ ok64 x.rv ∧ ok64 x.line ∧ ok64 x.col ∧ x.ln.size ≤ 9223372036854775807 ∧ x.rn.size ≤ 9223372036854775807 ∧ x.name.size ≤ 9223372036854775807 ∧ x.user.size ≤ 9223372036854775807
end
section
open Go.RowKit Go.ChangeShapes Go.WideShapes Go.Deep

/-- the fields from an offset on open into r -/
def OpensF {α : Type} (P : Program) (fs : List Field) (off : Nat) (r : Rep α) : Prop := ∀ (H : Type) (enc : TypeId × Value → H) (w : World) (fuel : Nat) (cs : List Value),
  off + r.size ≤ cs.length → (∀ (i : Nat) (f : Field), fs[i]? = some f → ∃ x, DataW.trod enc P w 0 (fun _ => true) true fuel f.type ((cs.drop f.offset).take (P.cellsOf f.type)) = some x) →
  ∃ a, r.at_ w (fun b => b < w.heap.size) ((cs.drop off).take r.size) a
theorem opensF_nil (P : Program) (off : Nat) : OpensF P [] off nilR := fun _ _ _ _ _ _ _ => ⟨(), by simp [nilR]⟩
theorem opensF_cons {α β : Type} {P : Program} {f : Field} {fs : List Field} {off : Nat} {r : Rep α} {s : Rep β} (ho : f.offset = off) (hc : P.cellsOf f.type = r.size) (h1 : Opens P f.type r) (h2 : OpensF P fs (off + r.size) s) : OpensF P (f :: fs) off (pairR r s) := by
  intro H enc w fuel cs hl hf
  have hlr : off + (r.size + s.size) ≤ cs.length := hl
  obtain ⟨x, hx⟩ := hf 0 f rfl
  obtain ⟨a, ha⟩ := h1 H enc w fuel _ _ hx
  obtain ⟨b, hb⟩ := h2 H enc w fuel cs (by omega) (fun i g hg => hf (i + 1) g (by simpa using hg))
  refine ⟨(a, b), _, _, ?_, ha, hb⟩
  rw [ho, hc]
  show List.take (r.size + s.size) (cs.drop off) = _
  rw [List.take_add, List.drop_drop]
theorem opens_struct {α : Type} {P : Program} {t : TypeId} {fs : Array Field} {r : Rep α} (ht : P.underlying t = some (.struct fs)) (hc : P.cellsOf t = r.size) (ho : OpensF P fs.toList 0 r) : Opens P t r := by
  intro H enc w fuel cs x hx
  obtain ⟨xs, n, _, _, hl, hlen, hf⟩ := DataW.trod_struct ht hx
  obtain ⟨a, ha⟩ := ho H enc w n cs (by omega) (fun i f hfi => by
    have hfi' : fs[i]? = some f := by simpa using hfi
    have h1 := hf i f hfi'
    have hi : i < xs.length := by rw [hlen]; exact (Array.getElem?_eq_some_iff.1 hfi').1
    exact ⟨xs[i], by rw [h1, List.getElem?_eq_getElem hi]⟩)
  refine ⟨a, ?_⟩
  rwa [List.drop_zero, List.take_of_length_le (by omega)] at ha
theorem okWide_struct {P : Program} {W : World} {r : Reach} {b : Nat} {t : TypeId} {fs : Array Field} {v : Value} (ht : P.underlying t = some (.struct fs)) (h : Value.okWide P W r b t v) : ∃ cs, v = .agg cs ∧ cs.size = P.cellsOf t := by
  simp only [Value.okWide, ht] at h
  obtain ⟨cs, h1, h2, _⟩ := h
  exact ⟨cs, h1, h2⟩
theorem pair_inv {α β : Type} {r : Rep α} {s : Rep β} {w : World} {S : Nat → Prop} {cs : List Value} {p : α × β} (h : (pairR r s).at_ w S cs p) : ∃ c1 c2, cs = c1 ++ c2 ∧ r.at_ w S c1 p.1 ∧ s.at_ w S c2 p.2 := h
/-- one cell is one cell -/
theorem one_inv {α : Type} {r : Rep α} {w : World} {S : Nat → Prop} {cs : List Value} {a : α} (hr : r.size = 1) (h : r.at_ w S cs a) : ∃ v, cs = [v] ∧ r.one w S v a := by
  have := r.len h
  rw [hr] at this
  match cs, this with
  | [v], _ => exact ⟨v, rfl, h⟩
end
section
open Go.RowKit

structure Gd where
  stage : Int
  event : Int
  cond : List Inst
structure Ml where
  name : ByteArray
  stage : Int
  event : Int
  cond : List Inst
  final : Bool
structure Ev where
  name : ByteArray
  role : Int
  stage : Int
  sets : List Int
  times : Int
structure Mod where
  attrs : List ByteArray
  inits : List Int
  users : List ByteArray
  roles : List (ByteArray × Int)
  stages : List (ByteArray × Int)
  events : List Ev
  guards : List Gd
  miles : List Ml
  sods : List (Int × Int)
  order : List (Bool × Int)
def strOk (s : ByteArray) : Prop := s.size ≤ 9223372036854775807
def nameIntR : Rep (ByteArray × Int) where
  size := 2
  at_ := fun _ _ cs x => cs = [.string x.1, .int .i64 x.2] ∧ strOk x.1 ∧ ok64 x.2
  len := fun h => by rw [h.1]; rfl
  keep := fun h _ => h
  mono := fun h _ => h
def intIntR : Rep (Int × Int) where
  size := 2
  at_ := fun _ _ cs x => cs = [.int .i64 x.1, .int .i64 x.2] ∧ ok64 x.1 ∧ ok64 x.2
  len := fun h => by rw [h.1]; rfl
  keep := fun h _ => h
  mono := fun h _ => h
def sentryR : Rep (Bool × Int) where
  size := 2
  at_ := fun _ _ cs x => cs = [.bool x.1, .int .i64 x.2] ∧ ok64 x.2
  len := fun h => by rw [h.1]; rfl
  keep := fun h _ => h
  mono := fun h _ => h
def gdR : Rep Gd where
  size := 3
  at_ := fun w S cs g => ∃ cv, cs = [.int .i64 g.stage, .int .i64 g.event, cv] ∧ (sliceR instR).one w S cv g.cond ∧ ok64 g.stage ∧ ok64 g.event
  len := fun ⟨_, h, _⟩ => by rw [h]; rfl
  keep := fun ⟨cv, h, h2, h3⟩ hk => ⟨cv, h, slice_keep h2 hk, h3⟩
  mono := fun ⟨cv, h, h2, h3⟩ hB => ⟨cv, h, slice_mono h2 hB, h3⟩
def mlR : Rep Ml where
  size := 5
  at_ := fun w S cs g => ∃ cv, cs = [.string g.name, .int .i64 g.stage, .int .i64 g.event, cv, .bool g.final] ∧ (sliceR instR).one w S cv g.cond ∧ ok64 g.stage ∧ ok64 g.event ∧ strOk g.name
  len := fun ⟨_, h, _⟩ => by rw [h]; rfl
  keep := fun ⟨cv, h, h2, h3⟩ hk => ⟨cv, h, slice_keep h2 hk, h3⟩
  mono := fun ⟨cv, h, h2, h3⟩ hB => ⟨cv, h, slice_mono h2 hB, h3⟩
def evR : Rep Ev where
  size := 5
  at_ := fun w S cs g => ∃ cv, cs = [.string g.name, .int .i64 g.role, .int .i64 g.stage, cv, .int .i64 g.times] ∧ (sliceR (intR .i64)).one w S cv g.sets ∧ ok64 g.role ∧ ok64 g.stage ∧ ok64 g.times ∧ strOk g.name
  len := fun ⟨_, h, _⟩ => by rw [h]; rfl
  keep := fun ⟨cv, h, h2, h3⟩ hk => ⟨cv, h, slice_keep h2 hk, h3⟩
  mono := fun ⟨cv, h, h2, h3⟩ hB => ⟨cv, h, slice_mono h2 hB, h3⟩

/-- a slice whose things lie anywhere in memory -/
def SI {α : Type} (r : Rep α) (w : World) (v : Value) (l : List α) : Prop := (sliceR r).one w (fun b => b < w.heap.size) v l
theorem SI.below {α : Type} {r : Rep α} {w w' : World} {v : Value} {l : List α} (h : SI r w v l) (hb : Below w.heap.size w w') : SI r w' v l := slice_mono (slice_below h hb fun b h => h) fun b h => Nat.lt_of_lt_of_le h hb.size
theorem SI.mk {α : Type} {r : Rep α} {w : World} {S : Nat → Prop} {v : Value} {l : List α} (h : (sliceR r).one w S v l) (hS : ∀ b, S b → b < w.heap.size) : SI r w v l := slice_mono h hS
/-- the values of a model's ten lists -/
structure MV where
  attrs : Value
  inits : Value
  users : Value
  roles : Value
  stages : Value
  events : Value
  guards : Value
  miles : Value
  sods : Value
  order : Value
abbrev MV.cells (V : MV) : Array Value := #[V.attrs, V.inits, V.users, V.roles, V.stages, V.events, V.guards, V.miles, V.sods, V.order]
structure ModI (w : World) (V : MV) (m : Mod) : Prop where
  attrs : SI strR w V.attrs m.attrs
  inits : SI (intR .i64) w V.inits m.inits
  users : SI strR w V.users m.users
  roles : SI nameIntR w V.roles m.roles
  stages : SI nameIntR w V.stages m.stages
  events : SI evR w V.events m.events
  guards : SI gdR w V.guards m.guards
  miles : SI mlR w V.miles m.miles
  sods : SI intIntR w V.sods m.sods
  order : SI sentryR w V.order m.order
theorem ModI.below {w w' : World} {V : MV} {m : Mod} (h : ModI w V m) (hb : Below w.heap.size w w') : ModI w' V m :=
  ⟨h.attrs.below hb, h.inits.below hb, h.users.below hb, h.roles.below hb, h.stages.below hb, h.events.below hb, h.guards.below hb, h.miles.below hb, h.sods.below hb, h.order.below hb⟩
end
end Go.Proofs.YtodbhccfajgekaaDoor
