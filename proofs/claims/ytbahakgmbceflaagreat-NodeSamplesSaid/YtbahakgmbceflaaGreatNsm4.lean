/-
  Parts of the proof: AlI, AlJ0, AlJ, AlK, AlR, AlU, AlV, AlW, AlX, AlM, SoP.
-/
import Derived.Test.YtbahakgmbceflaaGreatNsm3
import Derived.RangeFuncLeaves
import Derived.RangeFuncRecord
import Derived.Laws.StructEq
import Derived.TacticsIn
import Derived.RangeFuncIn
import Derived.RangeFuncCalls
set_option linter.unusedVariables false
set_option linter.unusedSimpArgs false
namespace Go.Proofs.YtbahakgmbceflaaGreat
section
open Go.RowKit

mutual
def AV.ren (l : List Nat) : AV → AV
  | .osl id => .osl (l.getD id 0)
  | .op id i j => .op (l.getD id 0) i j
  | .agg cs => .agg (AV.renL l cs)
  | .tup cs => .tup (AV.renL l cs)
  | .fn f cs => .fn f (AV.renL l cs)
  | .any => .any
  | .c v => .c v
  | .sl sz rows => .sl sz rows
  | .rp cs => .rp cs
def AV.renL (l : List Nat) : List AV → List AV
  | [] => []
  | a :: l2 => a.ren l :: AV.renL l l2
end
theorem renL_map (l : List Nat) : ∀ l2 : List AV, AV.renL l l2 = l2.map (·.ren l)
  | [] => rfl
  | a :: l2 => by simp [AV.renL, renL_map l l2]
def aTabs (st : ASt) (ren : List Nat) : ATab → Prop
  | [] => True
  | (k, o) :: T => (k < ren.length ∧ (∃ e sz rows, o = some (.row e sz rows)) ∧ st.tab.get (ren.getD k 0) = o) ∧ aTabs st ren T
def aGives (R : Res) (st : ASt) (av : AV) : Prop := ∃ ren : List Nat, ren.Nodup ∧ R.r.ren ren = av ∧ aTabs st ren R.tab
def aResL (P : Program) (st : ASt) : List ResultVar → (List AV → Prop) → Prop
  | [], K => K []
  | .tmp t :: l, K => aResL P st l fun avs => K (st.get t :: avs)
  | .cell p ty :: l, K => aLoad P ty st.tab (st.get p) fun av => aResL P st l fun avs => K (av :: avs)
def aOne : List AV → AV
  | [x] => x
  | l => .tup l
def aRetR (P : Program) (rs : List ResultVar) (Post : Res → Prop) : Exit → ASt → Prop
  | .normal, st => aResL P st rs fun avs => ∃ R, Post R ∧ R.Ok ∧ aGives R st (aOne avs)
  | .ret, st => aResL P st rs fun avs => ∃ R, Post R ∧ R.Ok ∧ aGives R st (aOne avs)
  | _, _ => False
def aRet (P : Program) (rs : List ResultVar) (R : Res) : Exit → ASt → Prop
  | .normal, st => aResL P st rs fun avs => aGives R st (aOne avs)
  | .ret, st => aResL P st rs fun avs => aGives R st (aOne avs)
  | _, _ => False
theorem aRet_n {P : Program} {rs : List ResultVar} {R : Res} {st : ASt} : aRet P rs R .normal st = aResL P st rs fun avs => aGives R st (aOne avs) := rfl
theorem aRet_r {P : Program} {rs : List ResultVar} {R : Res} {st : ASt} : aRet P rs R .ret st = aResL P st rs fun avs => aGives R st (aOne avs) := rfl
theorem aRetR_n {P : Program} {rs : List ResultVar} {Post : Res → Prop} {st : ASt} : aRetR P rs Post .normal st = aResL P st rs fun avs => ∃ R, Post R ∧ R.Ok ∧ aGives R st (aOne avs) := rfl
theorem aRetR_r {P : Program} {rs : List ResultVar} {Post : Res → Prop} {st : ASt} : aRetR P rs Post .ret st = aResL P st rs fun avs => ∃ R, Post R ∧ R.Ok ∧ aGives R st (aOne avs) := rfl
def envOf : Nat → List AV → List (Nat × AV)
  | _, [] => []
  | k, a :: l => (k, a) :: envOf (k + 1) l
theorem aget_envOf : ∀ (l : List AV) (k t : Nat), aget (envOf k l) t = if k ≤ t then l.getD (t - k) .any else .any
  | [], k, t => by simp [envOf, aget]
  | a :: l, k, t => by
    simp only [envOf, aget]
    rw [aget_envOf l (k + 1) t]
    by_cases h : t = k
    · subst h
      simp
    · rw [if_neg h]
      by_cases h2 : k ≤ t
      · rw [if_pos (by omega), if_pos h2, show t - k = (t - (k + 1)) + 1 by omega]
        simp
      · rw [if_neg (by omega), if_neg h2]

section
variable {P : Program} {cx : Cx} {a : Act} {w w' : World} {tab : ATab} {st : ASt} {L : Nat → Value} {nx : Nat}
theorem tabs_get {ren : List Nat} : ∀ {T : ATab} {k : Nat} {o : AObj}, aTabs st ren T → T.get k = some o → k < ren.length ∧ (∃ e sz rows, o = .row e sz rows) ∧ st.tab.get (ren.getD k 0) = some o
  | [], k, o, _, h => by cases h
  | (j, oo) :: T, k, o, hp, h => by
    rw [ATab.get_cons] at h
    split at h
    · rename_i e
      subst e
      subst h
      obtain ⟨h1, ⟨e, sz, rows, h2⟩, h3⟩ := hp.1
      cases h2
      exact ⟨h1, ⟨e, sz, rows, rfl⟩, h3⟩
    · exact tabs_get hp.2 h
theorem asAddr_of_load {t : TypeId} {v u : Value} (h : (Instr.loadAt t v).run P w = .ok u w) : (do loadVar t (← asAddr v) : Sem Value).run P w = .ok u w := by
  cases v with
  | pointer p =>
    cases p with
    | none => simp [Instr.loadAt, Instr.sureAddr, Sem.run_bind] at h
    | some ad => simpa [Instr.loadAt, Instr.sureAddr, asAddr, Sem.run_bind] using h
  | _ => simp [Instr.loadAt, Instr.sureAddr, Sem.run_bind] at h
def resVar (tmps : Array Value) : ResultVar → Sem Value
  | .tmp t => pure (tmps.getD t undef)
  | .cell p t => do loadVar t (← asAddr (tmps.getD p undef))
theorem results_eq (fn : Func) (tmps : Array Value) : results fn tmps = (do
    let vs ← fn.results.mapM (resVar tmps)
    pure (if h : vs.size = 1 then vs[0] else .tuple vs)) := by
  unfold results
  congr 1
theorem resL_ok (h : Conc cx a w st L) : ∀ (l : List ResultVar) (K : List AV → Prop), aResL P st l K →
    ∃ vs avs, K avs ∧ vs.length = avs.length ∧ (∀ (j : Nat) (v : Value) (av : AV), vs[j]? = some v → avs[j]? = some av → RVx cx w st.tab L v av) ∧
      (l.mapM (resVar a.tmps) : Sem (List Value)).run P w = .ok vs w
  | [], K, hp => ⟨[], [], hp, rfl, by simp, by simp⟩
  | .tmp t :: l, K, hp => by
    obtain ⟨vs, avs, h1, h2, h3, h4⟩ := resL_ok h l _ hp
    refine ⟨a.tmps.getD t undef :: vs, st.get t :: avs, h1, by simp [h2], fun j v av h5 h6 => ?_, ?_⟩
    · cases j with
      | zero =>
        cases h5
        cases h6
        exact (h.env t).1
      | succ j => exact h3 j v av (by simpa using h5) (by simpa using h6)
    · simp only [List.mapM_cons, resVar, Sem.run_bind, Sem.run_pure, Result.andThen_ok, h4]
  | .cell p ty :: l, K, hp => by
    obtain ⟨u, au, h1, h2, h3, h4⟩ := (load_ok (nx := st.next) h.lay (fun id o hid => (h.young id o hid).2) (h.env p).1 hp).one
    obtain ⟨vs, avs, h5, h6, h7, h8⟩ := resL_ok h l _ h1
    refine ⟨u :: vs, au :: avs, h5, by simp [h6], fun j v av h9 h10 => ?_, ?_⟩
    · cases j with
      | zero =>
        cases h9
        cases h10
        exact h2
      | succ j => exact h7 j v av (by simpa using h9) (by simpa using h10)
    · have := asAddr_of_load (h4 w (Below.refl _ _))
      simp only [List.mapM_cons, resVar]
      rw [Sem.run_bind, this]
      simp only [Sem.run_bind, Sem.run_pure, Result.andThen_ok, h8]
theorem res_ok {fn : Func} {K : AV → Prop} (h : Conc cx a w st L) (hp : aResL P st fn.results.toList fun avs => K (aOne avs)) : ∃ v av, K av ∧ RVx cx w st.tab L v av ∧ (results fn a.tmps).run P w = .ok v w := by
  obtain ⟨vs, avs, h1, h2, h3, h4⟩ := resL_ok h _ _ hp
  have hm : (results fn a.tmps).run P w = .ok (if h : vs.toArray.size = 1 then vs.toArray[0] else .tuple vs.toArray) w := by
    rw [results_eq, Sem.run_bind, Array.mapM_eq_mapM_toList]
    simp only [Sem.run_map, h4]
    rfl
  refine ⟨_, aOne avs, h1, ?_, hm⟩
  clear hm h4 h1
  match vs, avs, h2, h3 with
  | [v], [av], _, h3 => exact h3 0 v av rfl rfl
  | [], [], _, h3 => exact .tup _ _ rfl (by simp)
  | v :: v' :: vs, av :: av' :: avs, h2, h3 =>
    simp only [aOne, List.size_toArray, List.length_cons]
    rw [dif_neg (by omega)]
    exact .tup _ _ (by simpa using h2) fun j x av h4 h5 => h3 j x av (by simpa using h4) h5
mutual
theorem rv_ren {tab' : ATab} {L' : Nat → Value} {ren : List Nat} (hS : ∀ b, Sx cx w tab L b → Sx cx w tab' L' b) (hK : ∀ k p, Kx tab' L' k = some p → Kx tab L (ren.getD k 0) = some p) :
    ∀ (r : AV) (v : Value), RVx cx w tab L v (r.ren ren) → RVx cx w tab' L' v r
  | .any, v, _ => .tree (.any v)
  | .c x, v, h => by
    obtain rfl := RV.c_inv (v := x) h
    exact .tree (.c v)
  | .sl sz rows, v, h => .tree ((RV.sl_inv h).mono (fun _ _ => rfl) hS)
  | .osl id, v, h => .osl v id fun sz u hk => RV.osl_inv h sz u (hK id _ hk)
  | .agg cs, v, h => by
    simp only [AV.ren, renL_map] at h
    obtain ⟨xs, rfl, hn, hr⟩ := h.agg_inv
    exact .agg xs cs (by simpa using hn) fun j x av h1 h2 => rv_renL hS hK cs j x av h2 (hr j x _ h1 (by simp [h2]))
  | .tup cs, v, h => by
    simp only [AV.ren, renL_map] at h
    obtain ⟨xs, rfl, hn, hr⟩ := h.tup_inv
    exact .tup xs cs (by simpa using hn) fun j x av h1 h2 => rv_renL hS hK cs j x av h2 (hr j x _ h1 (by simp [h2]))
  | .fn f cs, v, h => by
    simp only [AV.ren, renL_map] at h
    obtain ⟨xs, rfl, hn, hr⟩ := h.fn_inv
    exact .fn f xs cs (by simpa using hn) fun j x av h1 h2 => rv_renL hS hK cs j x av h2 (hr j x _ h1 (by simp [h2]))
  | .rp cs, v, h => by
    have : RT w (Sx cx w tab L) v (.rp cs) := by
      cases h with
      | tree h => exact h
    exact .tree (this.mono (fun _ _ => rfl) hS)
  | .op id i j, v, h => .op v id i j fun sz u hk => RV.op_inv h sz u (hK id _ hk)
theorem rv_renL {tab' : ATab} {L' : Nat → Value} {ren : List Nat} (hS : ∀ b, Sx cx w tab L b → Sx cx w tab' L' b) (hK : ∀ k p, Kx tab' L' k = some p → Kx tab L (ren.getD k 0) = some p) :
    ∀ (l : List AV) (j : Nat) (v : Value) (av : AV), l[j]? = some av → RVx cx w tab L v (av.ren ren) → RVx cx w tab' L' v av
  | [], j, v, av, h, _ => by simp at h
  | a :: l, 0, v, av, h, hr => by
    simp at h
    subst h
    exact rv_ren hS hK a v hr
  | a :: l, j + 1, v, av, h, hr => rv_renL hS hK l j v av (by simpa using h) hr
end
end
/-! ### the end of loops over a function -/
structure KeepM (base : Nat) (w w' : World) : Prop where
  below : Below base w w'
  size : w'.heap.size = w.heap.size
  cell : ∀ p, w'.cell? p = w.cell? p
  cells : ∀ (k : Nat) cs t x, w.heap[k]? = some (Obj.cells cs t x) → w'.heap[k]? = some (Obj.cells cs t x)
  maps : ∀ (k : Nat) es c, w.heap[k]? = some (Obj.map es c) → w'.heap[k]? = some (Obj.map es c)
theorem KeepM.refl (base : Nat) (w : World) : KeepM base w w := ⟨Below.refl _ _, rfl, fun _ => rfl, fun _ _ _ _ h => h, fun _ _ _ h => h⟩
theorem KeepM.trans {base : Nat} {w w' w'' : World} (h : KeepM base w w') (k : KeepM base w' w'') : KeepM base w w'' :=
  ⟨h.below.trans k.below, k.size.trans h.size, fun p => (k.cell p).trans (h.cell p), fun b cs t x hb => k.cells b cs t x (h.cells b cs t x hb), fun b es c hb => k.maps b es c (h.maps b es c hb)⟩
theorem KeepM.put {base k : Nat} {w : World} {o : Option (List Deferred)} (hk : base ≤ k) (h : w.heap[k]? = some (.deferred o)) (o' : Option (List Deferred)) : KeepM base w (w.putObj k (.deferred o')) := by
  have hother : ∀ j, j ≠ k → (w.putObj k (.deferred o')).heap[j]? = w.heap[j]? := fun j hj => World.putObj_heap_other hj
  have hlt : k < w.heap.size := (Array.getElem?_eq_some_iff.1 h).1
  refine ⟨⟨rfl, rfl, rfl, by simp, fun j hj => hother j (by omega)⟩, by simp, fun p => ?_, fun j cs t x hj => ?_, fun j es c hj => ?_⟩
  · by_cases e : p.block = k
    · have h1 : (w.putObj k (.deferred o')).heap[p.block]? = some (.deferred o') := by rw [e]; exact World.putObj_heap_same hlt
      have h2 : w.heap[p.block]? = some (.deferred o) := by rw [e]; exact h
      unfold World.cell?
      rw [h1, h2]
    · exact World.cell?_of_block (hother p.block e)
  · by_cases e : j = k
    · rw [e, h] at hj
      cases hj
    · rw [hother j e]
      exact hj
  · by_cases e : j = k
    · rw [e, h] at hj
      cases hj
    · rw [hother j e]
      exact hj
section
variable {cx : Cx} {a : Act} {w w' : World} {st : ASt} {L : Nat → Value}
theorem conc_keep (h : Conc cx a w st L) (hk : KeepM cx.w0.heap.size w w') {ds : List Deferred} (hm : Marks cx.w0.heap.size w' (Sx cx w' st.tab L) ds) : Conc cx { a with defers := ds } w' st L := by
  have hS : ∀ b, Sx cx w st.tab L b → Sx cx w' st.tab L b := fun b hb => ⟨by rw [hk.size]; exact hb.1, hb.2.1, hb.2.2⟩
  have hrv : ∀ {x av nx}, RVx cx w st.tab L x av → av.lt nx → RVx cx w' st.tab L x av := fun hr hl => hr.mono hl (fun p _ => hk.cell p) hS (fun _ _ _ h => h)
  refine ⟨⟨h.lay.below.trans (belowX hk.below), fun id o hid => ?_, h.lay.sep, fun b hb => ⟨by rw [hk.size]; exact (h.lay.ex b hb).1, (h.lay.ex b hb).2⟩⟩, h.size, hm, h.young, fun t => ⟨hrv (h.env t).1 (h.env t).2, (h.env t).2⟩⟩
  have ho := h.lay.objs id o hid
  have hy := (h.young id o hid).2
  cases o with
  | box t cells =>
    obtain ⟨g, cs, h1, h2, h3, h4, h5⟩ := ho
    exact ⟨g, cs, h1, h2, hk.cells _ _ _ _ h3, h4, fun j x av h6 h7 => ⟨hrv (h5 j x av h6 h7).1 (ltL_iff.1 hy _ (List.mem_of_getElem? h7)), (h5 j x av h6 h7).2⟩⟩
  | row e sz rows =>
    obtain ⟨h1, xs, hown, h2, h3⟩ := ho
    refine ⟨h1, xs, ⟨hown.1, ?_⟩, h2, fun i j row av ha hb => ?_⟩
    · rcases hown.2 with hn | ⟨g, cap, cur, h4, hb, hh, rest⟩
      · exact .inl hn
      · exact .inr ⟨g, cap, cur, h4, hb, hk.cells _ _ _ _ hh, rest⟩
    · obtain ⟨x, hx, hr⟩ := h3 i j row av ha hb
      exact ⟨x, hx, hr.mono (fun p _ => hk.cell p) hS⟩
  | map ents =>
    obtain ⟨b, es, ck, h1, h2, h3, h4⟩ := ho
    exact ⟨b, es, ck, h1, h2, hk.maps _ _ _ h3, h4⟩
  | ghost vs env => exact ⟨ho.1, fun t ht => hrv (ho.2 t ht) (envLt_aget hy t)⟩
end
theorem conc_keepM {cx : Cx} {a : Act} {w w' : World} {st : ASt} {L : Nat → Value} (h : Conc cx a w st L) (hk : KeepM cx.w0.heap.size w w') : Conc cx { a with defers := [] } w' st L := conc_keep h hk (Marks.nil _ _ _)
theorem leaves_marks {P : Program} {fn : Func} {tmps : Array Value} {R : Ending → World → Prop} {base : Nat} {S : Nat → Prop} : ∀ (ds : List Deferred) (w : World), Marks base w S ds → (∀ w', KeepM base w w' → LeavesIn Fence.wide 0 P fn tmps R [] .returning w') → LeavesInM Fence.wide 0 P fn tmps R ds .returning w
  | [], w, _, h => h w (KeepM.refl _ _)
  | d :: ds, w, hm, h => by
    obtain ⟨k, rfl, h1, h2, h3⟩ := hm.2 d (List.mem_cons_self ..)
    have hk := KeepM.put h1 h2 none
    refine ⟨by simp, .inl ⟨k, _, rfl, run_takeDeferred h2, leaves_marks (S := S) ds _ ⟨(List.nodup_cons.1 hm.1).2, fun d' hd' => ?_⟩ fun w' hw' => h w' (hk.trans hw')⟩⟩
    obtain ⟨k', rfl, h4, h5, h6⟩ := hm.2 d' (List.mem_cons_of_mem _ hd')
    refine ⟨k', rfl, h4, ?_, h6⟩
    have hne : k' ≠ k := fun e => (List.nodup_cons.1 hm.1).1 (by rw [← e]; exact hd')
    rw [World.putObj_heap_other hne]
    exact h5
theorem arel_of_wp {P : Program} {f : FuncId} {fn : Func} {c : Code} (hf : P.funcs[f]? = some fn) (hb : fn.body = some c) (hname : (fn.name == "runtime.NumGoroutine") = false) {args : List AV} {Post : Res → Prop} {n : Nat} (hnt : fn.ntmps = n) {rs : List ResultVar} (hrs : fn.results = rs.toArray) (hn : Nat.ble args.length n = true)
    (h : ∀ (cx : Cx) (a : Act) (w : World) (L : Nat → Value), Conc cx a w ⟨n, envOf 0 args, [], 0⟩ L → c.wp P (AfterC cx (aRetR P rs Post)) a w) : ARel P f args Post := by
  have hn := Nat.le_of_ble_eq_true hn
  subst hnt
  have hrs : fn.results.toList = rs := by rw [hrs]
  refine ⟨fun vs w => ?_, fun S w vs hS hvs hv => ?_⟩
  · have : ¬ fn.name = "runtime.NumGoroutine" := by simpa using hname
    simp [callFunc, Sem.run_bind, hf, this, hb]
  · let cx : Cx := (Cx.mk0 S w hS)
    refine (callsIn_wide (n := 0)).1 (callsIn_of_wp_marks hf hb trivial (wpIn_wide.2 ?_))
    have hL : Lay cx w [] (fun _ => undef) := ⟨belowX (Below.refl _ _), fun id o h => (by cases h), fun id id' o o' g h => (by cases h), fun b hb => hb.elim⟩
    have hC : Conc cx { tmps := vs ++ Array.replicate (fn.ntmps - vs.size) undef, defers := [] } w ⟨fn.ntmps, envOf 0 args, [], 0⟩ (fun _ => undef) := by
      refine ⟨hL, ?_, Marks.nil _ _ _, fun id o h => (by cases h), fun t => ?_⟩
      · simp
        omega
      have e : (⟨fn.ntmps, envOf 0 args, [], 0⟩ : ASt).get t = args.getD t .any := by
        show (if t < fn.ntmps then aget (envOf 0 args) t else .any) = _
        rw [aget_envOf]
        split
        · simp
        · simp [List.getD, List.getElem?_eq_none (show args.length ≤ t by omega)]
      rw [e]
      by_cases ht : t < args.length
      · have ht' : t < vs.size := by omega
        have e2 : (vs ++ Array.replicate (fn.ntmps - vs.size) undef).getD t undef = vs[t] := by
          rw [Array.getD_eq_getD_getElem?, Array.getElem?_append_left ht', Array.getElem?_eq_getElem ht']
          rfl
        have e3 : args.getD t .any = args[t] := by simp [List.getD, ht]
        rw [e2, e3]
        have := hv t _ _ (Array.getElem?_eq_getElem ht') (List.getElem?_eq_getElem ht)
        exact ⟨.tree (this.mono (fun _ _ => rfl) fun b hb => ⟨hS b hb, ⟨.inl hb, fun h => h⟩, fun id o h => by cases h⟩), this.lt 0⟩
      · have e3 : args.getD t .any = .any := by simp [List.getD, List.getElem?_eq_none (Nat.le_of_not_lt ht)]
        rw [e3]
        exact ⟨.tree (.any _), trivial⟩
    refine Code.wp_mono (fun e a w' ⟨st, L, h1, h2⟩ => ?_) (h cx _ w _ hC)
    rw [← hrs] at h1
    have key : (aResL P st fn.results.toList fun avs => ∃ R, Post R ∧ R.Ok ∧ aGives R st (aOne avs)) → LeavesInM Fence.wide 0 P fn a.tmps (fun e w' => ∃ v' L R, Post R ∧ R.Ok ∧ e = .returned v' ∧ Lay cx w' R.tab L ∧ RVx cx w' R.tab L v' R.r) a.defers .returning w' := fun h1 => by
      refine leaves_marks _ _ h2.defers fun w2 hk2 => ?_
      have h2 := conc_keepM h2 hk2
      clear hk2
      generalize w2 = w' at h2
      obtain ⟨v, av, ⟨R, hPost, hok, ren, hnd, hr, ht⟩, h4, h5⟩ := res_ok (K := fun av => ∃ R, Post R ∧ R.Ok ∧ aGives R st av) h2 h1
      refine ⟨v, h5, v, fun k => L (ren.getD k 0), R, hPost, hok, rfl, ?_⟩
      subst hr
      have hget := fun k o => tabs_get (st := st) (T := R.tab) (k := k) (o := o) ht
      have hsub : ∀ b, Sx cx w' st.tab L b → Sx cx w' R.tab (fun k => L (ren.getD k 0)) b := fun b hb => ⟨hb.1, hb.2.1, fun k o hk => hb.2.2 _ o (hget k o hk).2.2⟩
      refine ⟨⟨h2.lay.below, fun k o hk => ?_, fun k k' o o' g h6 h7 h8 h9 => ?_, fun b hb => hb.elim⟩, rv_ren hsub (fun k p hk => ?_) _ _ h4⟩
      · obtain ⟨h6, ⟨e, sz, rows, rfl⟩, h7⟩ := hget k o hk
        obtain ⟨h8, xs, h9, h10, h11⟩ := h2.lay.objs _ _ h7
        refine ⟨h8, xs, h9, h10, fun i j row av h12 h13 => ?_⟩
        obtain ⟨x, hx, hrt⟩ := h11 i j row av h12 h13
        exact ⟨x, hx, hrt.mono (fun _ _ => rfl) hsub⟩
      · obtain ⟨ha, _, hb⟩ := hget k o h6
        obtain ⟨ha', _, hb'⟩ := hget k' o' h7
        have := h2.lay.sep _ _ o o' g hb hb' h8 h9
        simp only [List.getD, List.getElem?_eq_getElem ha, List.getElem?_eq_getElem ha', Option.getD_some] at this
        have hp := List.pairwise_iff_getElem.1 hnd
        rcases Nat.lt_trichotomy k k' with hlt | he | hlt
        · exact absurd this (hp k k' ha ha' hlt)
        · exact he
        · exact absurd this.symm (hp k' k ha' ha hlt)
      · unfold Kx at *
        cases ho : R.tab.get k with
        | none => simp [ho] at hk
        | some o =>
          rw [(hget k o ho).2.2]
          simpa [ho] using hk
    cases e with
    | normal => exact key h1
    | ret => exact key h1
    | _ => exact h1.elim
theorem retL_mono {P : Program} {st : ASt} : ∀ {l : List ResultVar} {K K' : List AV → Prop}, (∀ avs, K avs → K' avs) → aResL P st l K → aResL P st l K'
  | [], K, K', h, hp => h _ hp
  | .tmp t :: l, K, K', h, hp => retL_mono (l := l) (fun avs h2 => h _ h2) hp
  | .cell p ty :: l, K, K', h, hp => by
    have step : ∀ av, (aResL P st l fun avs => K (av :: avs)) → aResL P st l fun avs => K' (av :: avs) := fun av => retL_mono (l := l) (fun avs h2 => h _ h2)
    have take : ∀ cs, aTake P ty cs (fun av => aResL P st l fun avs => K (av :: avs)) → aTake P ty cs (fun av => aResL P st l fun avs => K' (av :: avs)) := fun cs ⟨h1, h2, h3⟩ => ⟨h1, h2, by
      split at h3
      · rw [if_pos (by assumption)]; exact step _ h3
      · rw [if_neg (by assumption)]; exact step _ h3⟩
    unfold aResL aLoad at hp ⊢
    split at hp
    · exact take _ hp
    · split at hp
      · rename_i h0
        first | simp only [h0] | skip
        exact ⟨hp.1, take _ hp.2⟩
      · rename_i h0
        first | simp only [h0] | skip
        exact ⟨hp.1, take _ hp.2⟩
      · exact hp.elim
    · exact hp.elim
theorem aRet_R {P : Program} {rs : List ResultVar} {R : Res} (hok : R.Ok) (e : Exit) (st : ASt) (h : aRet P rs R e st) : aRetR P rs (fun R' => R' = R) e st := by
  cases e with
  | normal => exact retL_mono (fun avs h => ⟨R, rfl, hok, h⟩) h
  | ret => exact retL_mono (fun avs h => ⟨R, rfl, hok, h⟩) h
  | _ => exact h.elim
theorem adet_of_wp {P : Program} {f : FuncId} {fn : Func} {c : Code} (hf : P.funcs[f]? = some fn) (hb : fn.body = some c) (hname : (fn.name == "runtime.NumGoroutine") = false) {args : List AV} {R : Res} {n : Nat} (hnt : fn.ntmps = n) {rs : List ResultVar} (hrs : fn.results = rs.toArray) (hn : Nat.ble args.length n = true)
    (hok : R.Ok) (h : ∀ (cx : Cx) (a : Act) (w : World) (L : Nat → Value), Conc cx a w ⟨n, envOf 0 args, [], 0⟩ L → c.wp P (AfterC cx (aRet P rs R)) a w) : ADet P f args R :=
  arel_of_wp hf hb hname hnt hrs hn fun cx a w L hc => Code.wp_mono (fun e a w ⟨st, L, h1, h2⟩ => ⟨st, L, aRet_R hok e st h1, h2⟩) (h cx a w L hc)
theorem arel_of_code {P : Program} (hm : P.follows .mixedOrders = true) {f : FuncId} {fn : Func} {c : Code} (hf : P.funcs[f]? = some fn) (hb : fn.body = some c) (hname : (fn.name == "runtime.NumGoroutine") = false) {args : List AV} {Post : Res → Prop} {n : Nat} (hnt : fn.ntmps = n) {rs : List ResultVar} (hrs : fn.results = rs.toArray) (hn : Nat.ble args.length n = true)
    (h : aCode P c (aRetR P rs Post) ⟨n, envOf 0 args, [], 0⟩) : ARel P f args Post :=
  arel_of_wp hf hb hname hnt hrs hn fun cx a w L hc => code_ok hm c _ a w _ L hc h
theorem adet_of_code {P : Program} (hm : P.follows .mixedOrders = true) {f : FuncId} {fn : Func} {c : Code} (hf : P.funcs[f]? = some fn) (hb : fn.body = some c) (hname : (fn.name == "runtime.NumGoroutine") = false) {args : List AV} {R : Res} {n : Nat} (hnt : fn.ntmps = n) {rs : List ResultVar} (hrs : fn.results = rs.toArray) (hn : Nat.ble args.length n = true)
    (hok : R.Ok) (h : aCode P c (aRet P rs R) ⟨n, envOf 0 args, [], 0⟩) : ADet P f args R :=
  adet_of_wp hf hb hname hnt hrs hn hok fun cx a w L hc => code_ok hm c _ a w _ L hc h
end
section
open Go.RowKit

def envIn (st : ASt) : List (Nat × AV) → Prop
  | [] => True
  | (t, av) :: l => st.get t = av ∧ envIn st l
def tabIn (st : ASt) : ATab → Prop
  | [] => True
  | (id, o) :: l => st.tab.get id = o ∧ tabIn st l
def tabLt (nx : Nat) : ATab → Prop
  | [] => True
  | (id, some o) :: l => (id < nx ∧ o.lt nx) ∧ tabLt nx l
  | (_, none) :: l => tabLt nx l
theorem envIn_get {st : ASt} {nx : Nat} : ∀ {l : List (Nat × AV)} (t : Nat), envIn st l → envLt nx l → (aget l t = st.get t ∨ aget l t = .any) ∧ (aget l t).lt nx
  | [], t, _, _ => ⟨.inr rfl, trivial⟩
  | (k, av) :: l, t, h, hl => by
    unfold aget
    split
    · rename_i e
      rw [e]
      exact ⟨.inl h.1.symm, hl.1⟩
    · exact envIn_get t h.2 hl.2
theorem tabIn_get {st : ASt} {nx : Nat} : ∀ {l : ATab} {id : Nat} {o : AObj}, tabIn st l → tabLt nx l → l.get id = some o → st.tab.get id = some o ∧ id < nx ∧ o.lt nx
  | [], id, o, _, _, h => by cases h
  | (k, oo) :: l, id, o, h, hl, hg => by
    rw [ATab.get_cons] at hg
    split at hg
    · rename_i e
      subst e
      subst hg
      exact ⟨h.1, hl.1.1, hl.1.2⟩
    · cases oo with
      | none => exact tabIn_get h.2 hl hg
      | some => exact tabIn_get h.2 hl.2 hg
theorem weak_cut {st : ASt} {n nx : Nat} {env : List (Nat × AV)} {tab : ATab} (hn : st.n = n) (he : envIn st env) (ht : tabIn st tab) (hl : envLt nx env) (hl2 : tabLt nx tab) : Weak st ⟨n, env, tab, nx⟩ := by
  intro cx a w L h
  have hsub : ∀ id o, tab.get id = some o → st.tab.get id = some o := fun id o hid => (tabIn_get ht hl2 hid).1
  have hS : ∀ b, Sx cx w st.tab L b → Sx cx w tab L b := fun b hb => ⟨hb.1, hb.2.1, fun id o hid => hb.2.2 id o (hsub id o hid)⟩
  have hK : ∀ id p, Kx tab L id = some p → Kx st.tab L id = some p := fun id p hk => by
    unfold Kx at *
    cases ho : tab.get id with
    | none => simp [ho] at hk
    | some o => rw [hsub id o ho]; simpa [ho] using hk
  have hrv : ∀ x av, RVx cx w st.tab L x av → RVx cx w tab L x av := fun x av hr => by
    have : ∀ nx', av.lt nx' → RVx cx w tab L x av := fun nx' hlt => hr.mono hlt (fun _ _ => rfl) hS (fun id p _ hk => hK id p hk)
    induction hr with
    | tree h => exact .tree (h.mono (fun _ _ => rfl) hS)
    | osl x id h => exact .osl x id fun sz v e => h sz v (hK id _ e)
    | op x id i j h => exact .op x id i j fun sz v e => h sz v (hK id _ e)
    | agg xs cs hn hr ih => exact .agg xs cs hn fun j x av h1 h2 => ih j x av h1 h2 fun nx' hlt => (hr j x av h1 h2).mono hlt (fun _ _ => rfl) hS (fun id p _ hk => hK id p hk)
    | tup xs cs hn hr ih => exact .tup xs cs hn fun j x av h1 h2 => ih j x av h1 h2 fun nx' hlt => (hr j x av h1 h2).mono hlt (fun _ _ => rfl) hS (fun id p _ hk => hK id p hk)
    | fn fi xs cs hn hr ih => exact .fn fi xs cs hn fun j x av h1 h2 => ih j x av h1 h2 fun nx' hlt => (hr j x av h1 h2).mono hlt (fun _ _ => rfl) hS (fun id p _ hk => hK id p hk)
  refine ⟨L, ⟨⟨h.lay.below, fun id o hid => ?_, fun id id' o o' g h1 h2 => h.lay.sep id id' o o' g (hsub id o h1) (hsub id' o' h2), fun b hb => ⟨(h.lay.ex b hb).1, fun id o hid => (h.lay.ex b hb).2 id o (hsub id o hid)⟩⟩, h.size.trans hn, h.defers.mono (fun _ _ => rfl) hS, fun id o hid => (tabIn_get ht hl2 hid).2, fun t => ?_⟩, hS⟩
  · have ho := h.lay.objs id o (hsub id o hid)
    have hext : Ext cx w st.tab L 0 w tab L := ⟨fun _ _ => rfl, hS, fun id p hlt => by omega⟩
    cases o with
    | box t cells =>
      obtain ⟨g, cs, h1, h2, h3, h4, h5⟩ := ho
      exact ⟨g, cs, h1, h2, h3, h4, fun j x av h6 h7 => ⟨hrv x av (h5 j x av h6 h7).1, (h5 j x av h6 h7).2⟩⟩
    | row e sz rows =>
      obtain ⟨h1, xs, h2, h3, h4⟩ := ho
      refine ⟨h1, xs, h2, h3, fun i j row av h5 h6 => ?_⟩
      obtain ⟨x, hx, hr⟩ := h4 i j row av h5 h6
      exact ⟨x, hx, hext.rt hr⟩
    | map ents => exact ho
    | ghost vs env => exact ⟨ho.1, fun t ht => hrv _ _ (ho.2 t ht)⟩
  · obtain ⟨h1, h2⟩ := envIn_get t he hl
    show RVx cx w tab L _ (if t < n then aget env t else .any) ∧ (if t < n then aget env t else .any).lt nx
    split
    case isFalse => exact ⟨.tree (.any _), trivial⟩
    refine ⟨?_, h2⟩
    rcases h1 with h1 | h1
    · rw [h1]
      exact hrv _ _ (h.env t).1
    · rw [h1]
      exact .tree (.any _)
theorem Weak.trans {st st' st'' : ASt} (h : Weak st st') (h2 : Weak st' st'') : Weak st st'' := fun cx a w L hc => (h cx a w L hc).elim fun L' hc' => (h2 cx a w L' hc'.1).elim fun L2 h3 => ⟨L2, h3.1, fun b hb => h3.2 b (hc'.2 b hb)⟩
def renEnv (l : List Nat) : List (Nat × AV) → List (Nat × AV)
  | [] => []
  | (t, av) :: r => (t, av.ren l) :: renEnv l r
theorem renEnv_get (l : List Nat) : ∀ (r : List (Nat × AV)) (t : Nat), aget (renEnv l r) t = (aget r t).ren l
  | [], t => rfl
  | (q, av) :: r, t => by
    unfold renEnv aget
    split
    · rfl
    · exact renEnv_get l r t
def AObj.ren (l : List Nat) : AObj → AObj
  | .box t cells => .box t (AV.renL l cells)
  | .row e sz rows => .row e sz rows
  | .map ents => .map ents
  | .ghost vs env => .ghost vs (renEnv l env)
theorem AObj.ren_sz (l : List Nat) (o : AObj) : (o.ren l).sz = o.sz := by cases o <;> simp [AObj.ren, AObj.sz, renL_map]
def envInR (st : ASt) (ids : List Nat) : List (Nat × AV) → Prop
  | [] => True
  | (t, av) :: l => st.get t = av.ren ids ∧ envInR st ids l
def tabInR (st : ASt) (ids : List Nat) : ATab → Prop
  | [] => True
  | (id, some o) :: l => (id < ids.length ∧ st.tab.get (ids.getD id 0) = some (o.ren ids)) ∧ tabInR st ids l
  | (_, none) :: l => tabInR st ids l
theorem envInR_get {st : ASt} {ids : List Nat} {nx : Nat} : ∀ {l : List (Nat × AV)} (t : Nat), envInR st ids l → envLt nx l → ((aget l t).ren ids = st.get t ∨ aget l t = .any) ∧ (aget l t).lt nx
  | [], t, _, _ => ⟨.inr rfl, trivial⟩
  | (k, av) :: l, t, h, hl => by
    unfold aget
    split
    · rename_i e
      rw [e]
      exact ⟨.inl h.1.symm, hl.1⟩
    · exact envInR_get t h.2 hl.2
theorem tabInR_get {st : ASt} {ids : List Nat} {nx : Nat} : ∀ {l : ATab} {id : Nat} {o : AObj}, tabInR st ids l → tabLt nx l → l.get id = some o → (id < ids.length ∧ st.tab.get (ids.getD id 0) = some (o.ren ids)) ∧ id < nx ∧ o.lt nx
  | [], id, o, _, _, h => by cases h
  | (k, some oo) :: l, id, o, h, hl, hg => by
    rw [ATab.get_cons] at hg
    split at hg
    · rename_i e
      subst e
      cases hg
      exact ⟨h.1, hl.1.1, hl.1.2⟩
    · exact tabInR_get h.2 hl.2 hg
  | (k, none) :: l, id, o, h, hl, hg => by
    rw [ATab.get_cons] at hg
    split at hg
    · cases hg
    · exact tabInR_get (l := l) h hl hg
theorem weak_ren {st : ASt} {n nx : Nat} {env : List (Nat × AV)} {tab : ATab} (ids : List Nat) (hnd : ids.Nodup) (hn : st.n = n) (he : envInR st ids env) (ht : tabInR st ids tab) (hl : envLt nx env) (hl2 : tabLt nx tab) : Weak st ⟨n, env, tab, nx⟩ := by
  intro cx a w L h
  have hget : ∀ k o, tab.get k = some o → k < ids.length ∧ st.tab.get (ids.getD k 0) = some (o.ren ids) := fun k o hk => (tabInR_get ht hl2 hk).1
  have hS : ∀ b, Sx cx w st.tab L b → Sx cx w tab (fun k => L (ids.getD k 0)) b := fun b hb => ⟨hb.1, hb.2.1, fun k o hk => hb.2.2 _ _ (hget k o hk).2⟩
  have hK : ∀ k p, Kx tab (fun k => L (ids.getD k 0)) k = some p → Kx st.tab L (ids.getD k 0) = some p := fun k p hk => by
    unfold Kx at *
    cases ho : tab.get k with
    | none => simp [ho] at hk
    | some o =>
      rw [(hget k o ho).2]
      simpa [ho, AObj.ren_sz] using hk
  refine ⟨fun k => L (ids.getD k 0), ⟨⟨h.lay.below, fun k o hk => ?_, fun k k' o o' g h6 h7 h8 h9 => ?_, fun b hb => ⟨(h.lay.ex b hb).1, fun k o hk => (h.lay.ex b hb).2 _ _ (hget k o hk).2⟩⟩, h.size.trans hn, h.defers.mono (fun _ _ => rfl) hS, fun id o hid => (tabInR_get ht hl2 hid).2, fun t => ?_⟩, hS⟩
  · obtain ⟨_, h7⟩ := hget k o hk
    have ho := h.lay.objs _ _ h7
    cases o with
    | box t cells =>
      obtain ⟨g, cs, h1, h2, h3, h4, h5⟩ := ho
      refine ⟨g, cs, h1, h2, h3, by simpa [renL_map] using h4, fun j x av h6 h8 => ?_⟩
      have h9 := h5 j x (av.ren ids) h6 (by rw [renL_map, List.getElem?_map, h8]; rfl)
      exact ⟨rv_ren hS hK av x h9.1, h9.2⟩
    | row e sz rows =>
      obtain ⟨h1, xs, h2, h3, h4⟩ := ho
      refine ⟨h1, xs, h2, h3, fun i j row av h5 h6 => ?_⟩
      obtain ⟨x, hx, hr⟩ := h4 i j row av h5 h6
      exact ⟨x, hx, hr.mono (fun _ _ => rfl) hS⟩
    | map ents => exact ho
    | ghost vs env =>
      refine ⟨ho.1, fun t ht => rv_ren hS hK _ _ ?_⟩
      have h9 := ho.2 t ht
      rwa [renEnv_get] at h9
  · obtain ⟨ha, hb⟩ := hget k o h6
    obtain ⟨ha', hb'⟩ := hget k' o' h7
    have := h.lay.sep _ _ _ _ g hb hb' h8 h9
    simp only [List.getD, List.getElem?_eq_getElem ha, List.getElem?_eq_getElem ha', Option.getD_some] at this
    have hp := List.pairwise_iff_getElem.1 hnd
    rcases Nat.lt_trichotomy k k' with hlt | he | hlt
    · exact absurd this (hp k k' ha ha' hlt)
    · exact he
    · exact absurd this.symm (hp k' k ha' ha hlt)
  · obtain ⟨h1, h2⟩ := envInR_get t he hl
    show RVx cx w tab _ _ (if t < n then aget env t else .any) ∧ (if t < n then aget env t else .any).lt nx
    split
    case isFalse => exact ⟨.tree (.any _), trivial⟩
    refine ⟨?_, h2⟩
    rcases h1 with h1 | h1
    · refine rv_ren hS hK _ _ ?_
      rw [h1]
      exact (h.env t).1
    · rw [h1]
      exact .tree (.any _)
theorem weak_nil {st : ASt} (t e sz : Nat) (hg : st.get t = .c (.slice none 0 0)) : Weak st ⟨st.n, (t, .osl st.next) :: st.env, (st.next, some (.row e sz [])) :: st.tab, st.next + 1⟩ := by
  intro cx a w L h
  have hv := (h.env t).1
  rw [hg] at hv
  have hv := hv.c_inv
  have hput : a.put (some t) (.slice none 0 0) = a := by
    unfold Act.put
    have : a.tmps.setIfInBounds t (.slice none 0 0) = a.tmps := by
      apply Array.ext (by simp)
      intro i h1 h2
      rw [Array.getElem_setIfInBounds]
      split
      · rename_i e
        subst e
        rw [← hv]
        simp [Array.getD, h2]
      · rfl
    simp only [this]
  refine ⟨updL L st.next (.slice none 0 0), ?_, fun b hb => ⟨hb.1, hb.2.1, fun k o hk hg => ?_⟩⟩
  rotate_left
  · have hk : ATab.get ((st.next, some (.row e sz [])) :: st.tab) k = some o := hk
    rw [ATab.get_cons] at hk
    unfold updL at hg
    split at hk
    · rename_i e1
      rw [if_pos e1] at hg
      simp [vblk] at hg
    · rename_i e1
      rw [if_neg e1] at hg
      exact hb.2.2 k o hk hg
  have := conc_new (ob := .row e sz []) (v := .slice none 0 0) (x := .slice none 0 0) (av := .osl st.next) h (Below.refl _ _) (fun g hg => by simp [vblk] at hg) (fun hext => ⟨by simp, [], ownsR_nil .., by simp, by simp⟩) trivial (fun hext => ?_) (Nat.lt_succ_self _) (some t)
  · rw [hput] at this
    exact this
  · refine .osl _ _ fun sz u hk => ?_
    simp [Kx, ATab.get_cons, updL] at hk
    exact hk.2
theorem weak_cut1 {st : ASt} {n nx : Nat} {env : List (Nat × AV)} {tab : ATab} (h : st.n = n ∧ (envIn st env ∧ tabIn st tab) ∧ envLt nx env ∧ tabLt nx tab) : Weak st ⟨n, env, tab, nx⟩ := weak_cut h.1 h.2.1.1 h.2.1.2 h.2.2.1 h.2.2.2
theorem weak_ren1 {st : ASt} {n nx : Nat} {env : List (Nat × AV)} {tab : ATab} (ids : List Nat) (h : ids.Nodup ∧ st.n = n ∧ (envInR st ids env ∧ tabInR st ids tab) ∧ envLt nx env ∧ tabLt nx tab) : Weak st ⟨n, env, tab, nx⟩ := weak_ren ids h.1 h.2.1 h.2.2.1.1 h.2.2.1.2 h.2.2.2.1 h.2.2.2.2
def slotN (st : ASt) (t : Nat) : Nat := match st.get t with | .c (.int _ n) => n.toNat | _ => 0

theorem wrap_in {x : Int} (h1 : -9223372036854775808 ≤ x) (h2 : x ≤ 9223372036854775807) : IntKind.i64.wrap x = x := by
  rw [IntKind.wrap_i64]; omega
theorem wrapK {k : Nat} (h : k ≤ 4611686018427387904) : IntKind.i64.wrap ((k : Int) + 1) = ((k + 1 : Nat) : Int) := by
  rw [wrap_in (by omega) (by omega)]; omega
def val (v : Value) : Res := ⟨.c v, [], 0⟩
theorem val_ok (v : Value) : (val v).Ok := ⟨fun id o h => (by cases h), trivial⟩
theorem gives_val {v : Value} {st : ASt} {av : AV} (h : av = .c v) : aGives (val v) st av := ⟨[], List.nodup_nil, by rw [h]; rfl, trivial⟩

theorem aGives_val {v : Value} {st : ASt} {av : AV} : aGives (val v) st av = (av = .c v) := propext ⟨fun ⟨ren, _, h, _⟩ => h.symm, gives_val⟩

/-! ### plain data as abstract values -/
abbrev eI (n : Int) : AV := .c (.int .i64 n)
abbrev eB (b : Bool) : AV := .c (.bool b)
abbrev eS (s : ByteArray) : AV := .c (.string s)
abbrev sI (l : List Int) : AV := .sl 1 (l.map fun n => [eI n])
theorem row_at {α : Type} {f : α → List AV} {l : List α} {k : Nat} (h : k < l.length) : (l.map f)[k]?.getD [] = f l[k] := by
  rw [List.getElem?_map, List.getElem?_eq_getElem h]; rfl
theorem callD {P : Program} {g : FuncId} {args : List AV} {v : Value} {K : Value → Prop} (h : ADet P g args (val v)) (hk : K v) : ∃ v, ADet P g args ⟨.c v, [], 0⟩ ∧ K v := ⟨v, h, hk⟩
theorem roundI {I : ASt → Prop} {μ : ASt → Nat} {n : Nat} {st st' : ASt} (hw : Weak st st') (hI : I st') (hm : μ st' < n) : aRound I μ n st := ⟨st', hw, hI, hm⟩
end
section
open Go.RowKit

def SC (P : Program) (c : Code) (Q : Exit → ASt → Prop) (st : ASt) : Prop := ∀ (cx : Cx) (a : Act) (w : World) (L : Nat → Value), Conc cx a w st L → c.wp P (AfterC cx Q) a w
section
variable {P : Program} {x y : Code} {Q Q' : Exit → ASt → Prop} {st st' : ASt}
theorem sc_of (hm : P.follows .mixedOrders = true) (h : aCode P x Q st) : SC P x Q st := fun cx a w L hc => code_ok hm x Q a w st L hc h
theorem SC.mono (h : SC P x Q st) (hq : ∀ e st, Q e st → Q' e st) : SC P x Q' st := fun cx a w L hc => Code.wp_mono (fun e a w ⟨st', L', h1, h2⟩ => ⟨st', L', hq e st' h1, h2⟩) (h cx a w L hc)
theorem SC.weak (hw : Weak st st') (h : SC P x Q st') : SC P x Q st := fun cx a w L hc => (hw cx a w L hc).elim fun L' hc' => h cx a w L' hc'.1
theorem sc_seq (h : SC P x (aThen (SC P y Q) Q) st) : SC P (.seq x y) Q st := fun cx a w L hc =>
  wp_seq (Code.wp_mono (fun e a' w' ⟨st', L', h1, h2⟩ => by
    cases e with
    | normal => exact h1 cx a' w' L' h2
    | _ => exact ⟨st', L', h1, h2⟩) (h cx a w L hc))
theorem aTo_mk {I : ASt → Prop} (hw : Weak st st') (h : I st') : aTo I st := ⟨st', hw, h⟩
theorem sc_cut (I : ASt → Prop) (h : SC P x (aThen (aTo I) Q) st) (h2 : ∀ st, I st → SC P y Q st) : SC P (.seq x y) Q st :=
  sc_seq (h.mono fun e st h => by
    cases e with
    | normal =>
      obtain ⟨st', hw, hI⟩ := h
      exact (h2 st' hI).weak hw
    | _ => exact h)
end
theorem adet_of_sc {P : Program} {f : FuncId} {fn : Func} {c : Code} (hf : P.funcs[f]? = some fn) (hb : fn.body = some c) (hname : (fn.name == "runtime.NumGoroutine") = false) {args : List AV} {R : Res} {n : Nat} (hnt : fn.ntmps = n) {rs : List ResultVar} (hrs : fn.results = rs.toArray) (hn : Nat.ble args.length n = true)
    (hok : R.Ok) (h : SC P c (aRet P rs R) ⟨n, envOf 0 args, [], 0⟩) : ADet P f args R := adet_of_wp hf hb hname hnt hrs hn hok h
theorem arel_of_sc {P : Program} {f : FuncId} {fn : Func} {c : Code} (hf : P.funcs[f]? = some fn) (hb : fn.body = some c) (hname : (fn.name == "runtime.NumGoroutine") = false) {args : List AV} {Post : Res → Prop} {n : Nat} (hnt : fn.ntmps = n) {rs : List ResultVar} (hrs : fn.results = rs.toArray) (hn : Nat.ble args.length n = true)
    (h : SC P c (aRetR P rs Post) ⟨n, envOf 0 args, [], 0⟩) : ARel P f args Post := arel_of_wp hf hb hname hnt hrs hn h
theorem adet_of_calls {P : Program} {f : FuncId} {args : List AV} {v : Value} (he : Enters P f)
    (h : ∀ (S : Nat → Prop) (w : World) (vs : Array Value), SOk w S → vs.size = args.length → (∀ (j : Nat) (v : Value) (av : AV), vs[j]? = some v → args[j]? = some av → RT w S v av) → Calls P f vs w fun e w' => e = .returned v ∧ Below w.heap.size w w') : ADet P f args (val v) :=
  ⟨he, fun S w vs h1 h2 h3 => (h S w vs h1 h2 h3).mono fun e w' ⟨h4, h5⟩ => ⟨v, fun _ => undef, val v, rfl, val_ok v, h4, ⟨belowX h5, fun id o h => (by cases h), fun id id' o o' g h => (by cases h), fun b hb => hb.elim⟩, .tree (.c v)⟩⟩
theorem ADet.calls {P : Program} {f : FuncId} {args : List AV} {v : Value} (h : ADet P f args (val v)) {w : World} {vs : Array Value} (h2 : vs.size = args.length) (h3 : ∀ (j : Nat) (v : Value) (av : AV), vs[j]? = some v → args[j]? = some av → RT w (fun b => b < w.heap.size) v av) (hA : Amb w := by exact amb_any _) :
    Calls P f vs w fun e w' => e = .returned v ∧ Below w.heap.size w w' :=
  (h.2 _ w vs ⟨fun b hb => hb, hA, fun b hb => Nat.lt_of_lt_of_le hb hA.le⟩ h2 h3).mono fun e w' ⟨v', L, R, h0, _, h4, h5, h6⟩ => by
    subst h0
    obtain rfl := h6.c_inv
    exact ⟨h4, h5.below.below fun b hb => hb⟩
def own (e : TypeId) (sz : Nat) (rows : List (List AV)) : Res := ⟨.osl 0, [(0, some (.row e sz rows))], 1⟩
theorem own_ok (e : TypeId) (sz : Nat) (rows : List (List AV)) : (own e sz rows).Ok := by
  refine ⟨fun id o h => ?_, Nat.zero_lt_one⟩
  simp only [own, ATab.get_cons] at h
  split at h
  · rename_i e
    cases h
    subst e
    exact ⟨Nat.zero_lt_one, trivial⟩
  · cases h
theorem aGives_own {e : TypeId} {sz : Nat} {rows : List (List AV)} {st : ASt} {id : Nat} : st.tab.get id = some (.row e sz rows) → aGives (own e sz rows) st (.osl id) := fun h =>
  ⟨[id], by simp, rfl, ⟨Nat.zero_lt_one, ⟨e, sz, rows, rfl⟩, h⟩, trivial⟩
theorem retV {Post : Res → Prop} {st : ASt} {v : Value} (h : Post (val v)) : ∃ R, Post R ∧ R.Ok ∧ aGives R st (.c v) := ⟨_, h, val_ok v, gives_val rfl⟩
theorem retO {Post : Res → Prop} {st : ASt} {id : Nat} {e : TypeId} {sz : Nat} {rows : List (List AV)} (hg : st.tab.get id = some (.row e sz rows)) (h : Post (own e sz rows)) : ∃ R, Post R ∧ R.Ok ∧ aGives R st (.osl id) := ⟨_, h, own_ok .., aGives_own hg⟩
theorem callP {u : Bool} {P : Program} {st : ASt} {g : FuncId} {args : List AV} {K : AV → ASt → Prop} {Post : Res → Prop} (h : ARel P g (args.map (dref st.tab)) Post) (hk : ∀ R, Post R → (roL args ∨ (R.r.plain ∧ R.tab.plain)) ∧ K (R.r.shift st.next) { st with tab := R.tab.shift st.next ++ st.tab, next := st.next + R.n }) : aCall u P st g args K := .inl (.inl ⟨Post, h, hk⟩)
theorem callR {u : Bool} {P : Program} {st : ASt} {g : FuncId} {args : List AV} {K : AV → ASt → Prop} {R : Res} (h : ADet P g (args.map (dref st.tab)) R) (ho : roL args ∨ (R.r.plain ∧ R.tab.plain)) (hk : K (R.r.shift st.next) { st with tab := R.tab.shift st.next ++ st.tab, next := st.next + R.n }) : aCall u P st g args K :=
  .inl (.inl ⟨_, h, fun R' e => by subst e; exact ⟨ho, hk⟩⟩)
theorem callV {u : Bool} {P : Program} {st : ASt} {g : FuncId} {args : List AV} {dst : Option Nat} {K : ASt → Prop} {v : Value} (h : ADet P g (args.map (dref st.tab)) (val v)) (hk : K (st.put dst (.c v))) : aCall u P st g args (aK2 dst K) :=
  callR h (.inr ⟨trivial, trivial⟩) hk
theorem ruA : type_of% (And.intro (And.intro (And.intro (And.intro (And.intro (And.intro (And.intro @aCode_skip @aCode_regF) (And.intro @aCode_regT @aCode_seq)) (And.intro (And.intro @aCode_cond @aCode_block) (And.intro @aCode_loop (And.intro @aCode_exit @aCode_ret)))) (And.intro (And.intro (And.intro @aCode_label @aCode_scope) (And.intro @aNoGoto_normal (And.intro @aNoGoto_ret @aNoGoto_exit))) (And.intro (And.intro @aThen_normal @aThen_exit) (And.intro @aThen_ret (And.intro @aInBlock_normal @aInBlock_ret))))) (And.intro (And.intro (And.intro (And.intro @aInBlock_exit @aCond_bool) (And.intro @aSkip_eq (And.intro @aKs_eq @aK_eq))) (And.intro (And.intro @aK2_eq @aFn_eq) (And.intro @aFn_clo (And.intro @aCallF_eq @aCallE_eq)))) (And.intro (And.intro (And.intro @aCallD_eq @aOps_nil) (And.intro @aOps_plain (And.intro @aOps_guard @aDops_nil))) (And.intro (And.intro @aDops_plain @aDops_guard) (And.intro @aGuardD_eq (And.intro @aGuardV_bool @aGuardV_undef)))))) (And.intro (And.intro (And.intro (And.intro (And.intro @aGd_tt @aGd_ff) (And.intro @aGd_tf (And.intro @aGd_ft @aIf_true))) (And.intro (And.intro @aIf_false @aSel_true) (And.intro @aSel_false (And.intro @aPickK_bool @aOp_move)))) (And.intro (And.intro (And.intro @aOp_assign @aOp_pick) (And.intro @aOp_load (And.intro @aOp_field @aOp_index))) (And.intro (And.intro @aOp_bin @aOp_un) (And.intro @aOp_extract (And.intro @aOp_conv @aOp_len))))) (And.intro (And.intro (And.intro (And.intro @aOp_append @aOp_call) (And.intro @aOp_makeFunc (And.intro @aOp_box @aOp_alloc))) (And.intro (And.intro @aOp_store @aOp_buildSlice) (And.intro @aOp_makeSlice (And.intro @aOp_build @aDop_move)))) (And.intro (And.intro (And.intro @aDop_assign @aDop_pick) (And.intro @aDop_load (And.intro @aDop_field @aDop_index))) (And.intro (And.intro @aDop_bin @aDop_un) (And.intro @aDop_extract (And.intro @aDop_conv @aDop_len))))))) (And.intro (And.intro (And.intro (And.intro (And.intro (And.intro @aDop_call @aDop_makeFunc) (And.intro @aDop_build @aGives_val)) (And.intro (And.intro @aRet_n @aRet_r) (And.intro @aRetR_n (And.intro @aRetR_r @aPops_nil)))) (And.intro (And.intro (And.intro @aPops_plain @aPops_guard) (And.intro @aPop_eq (And.intro @aHeldH_nil @aHeldH_cons))) (And.intro (And.intro @aHeld_nil @aHeld_take) (And.intro @aHeld_exec (And.intro @aHeld_two @aHeld_three))))) (And.intro (And.intro (And.intro (And.intro @aHeldL_plain @aHeldL_guard) (And.intro @aHeldT_plain (And.intro @aHeldT_guard @aTakeY_eq))) (And.intro (And.intro @aTakeN_eq @aTakeP_build) (And.intro @aTakeP_move (And.intro @aTakeP_assign @aTakeP_pick)))) (And.intro (And.intro (And.intro @aTakeP_load @aTakeP_field) (And.intro @aTakeP_index (And.intro @aTakeP_fieldV @aTakeP_bin))) (And.intro (And.intro @aTakeP_un @aTakeP_extract) (And.intro @aTakeP_conv (And.intro @aTakeP_call @aTakeP_clo)))))) (And.intro (And.intro (And.intro (And.intro (And.intro @aHeldE_eq @aHeldE_guard) (And.intro @aExecK_eq (And.intro @aExec_assign @aExec_load))) (And.intro (And.intro @aExec_store @aExec_append) (And.intro @aExec_call (And.intro @aExec_buildSlice @aPure_move)))) (And.intro (And.intro (And.intro @aPure_assign @aPure_pick) (And.intro @aPure_load (And.intro @aPure_field @aPure_index))) (And.intro (And.intro @aPure_bin @aPure_un) (And.intro @aPure_extract (And.intro @aPure_len @aPure_makeFunc))))) (And.intro (And.intro (And.intro (And.intro @aOp_fieldV @aDop_fieldV) (And.intro @aPure_fieldV (And.intro @aOp_slice @aDop_slice))) (And.intro (And.intro @aPure_slice @aTakeP_slice) (And.intro @aExec_makeSlice (And.intro @aPure_max @aPure_min)))) (And.intro (And.intro (And.intro @aOp_max @aOp_min) (And.intro @aDop_max (And.intro @aDop_min @aExec_alloc))) (And.intro (And.intro @aOp_nilChk @aDop_nilChk) (And.intro @aTakeP_nilChk (And.intro @aPure_nilChk @aExec_box)))))))) :=
  (And.intro (And.intro (And.intro (And.intro (And.intro (And.intro (And.intro @aCode_skip @aCode_regF) (And.intro @aCode_regT @aCode_seq)) (And.intro (And.intro @aCode_cond @aCode_block) (And.intro @aCode_loop (And.intro @aCode_exit @aCode_ret)))) (And.intro (And.intro (And.intro @aCode_label @aCode_scope) (And.intro @aNoGoto_normal (And.intro @aNoGoto_ret @aNoGoto_exit))) (And.intro (And.intro @aThen_normal @aThen_exit) (And.intro @aThen_ret (And.intro @aInBlock_normal @aInBlock_ret))))) (And.intro (And.intro (And.intro (And.intro @aInBlock_exit @aCond_bool) (And.intro @aSkip_eq (And.intro @aKs_eq @aK_eq))) (And.intro (And.intro @aK2_eq @aFn_eq) (And.intro @aFn_clo (And.intro @aCallF_eq @aCallE_eq)))) (And.intro (And.intro (And.intro @aCallD_eq @aOps_nil) (And.intro @aOps_plain (And.intro @aOps_guard @aDops_nil))) (And.intro (And.intro @aDops_plain @aDops_guard) (And.intro @aGuardD_eq (And.intro @aGuardV_bool @aGuardV_undef)))))) (And.intro (And.intro (And.intro (And.intro (And.intro @aGd_tt @aGd_ff) (And.intro @aGd_tf (And.intro @aGd_ft @aIf_true))) (And.intro (And.intro @aIf_false @aSel_true) (And.intro @aSel_false (And.intro @aPickK_bool @aOp_move)))) (And.intro (And.intro (And.intro @aOp_assign @aOp_pick) (And.intro @aOp_load (And.intro @aOp_field @aOp_index))) (And.intro (And.intro @aOp_bin @aOp_un) (And.intro @aOp_extract (And.intro @aOp_conv @aOp_len))))) (And.intro (And.intro (And.intro (And.intro @aOp_append @aOp_call) (And.intro @aOp_makeFunc (And.intro @aOp_box @aOp_alloc))) (And.intro (And.intro @aOp_store @aOp_buildSlice) (And.intro @aOp_makeSlice (And.intro @aOp_build @aDop_move)))) (And.intro (And.intro (And.intro @aDop_assign @aDop_pick) (And.intro @aDop_load (And.intro @aDop_field @aDop_index))) (And.intro (And.intro @aDop_bin @aDop_un) (And.intro @aDop_extract (And.intro @aDop_conv @aDop_len))))))) (And.intro (And.intro (And.intro (And.intro (And.intro (And.intro @aDop_call @aDop_makeFunc) (And.intro @aDop_build @aGives_val)) (And.intro (And.intro @aRet_n @aRet_r) (And.intro @aRetR_n (And.intro @aRetR_r @aPops_nil)))) (And.intro (And.intro (And.intro @aPops_plain @aPops_guard) (And.intro @aPop_eq (And.intro @aHeldH_nil @aHeldH_cons))) (And.intro (And.intro @aHeld_nil @aHeld_take) (And.intro @aHeld_exec (And.intro @aHeld_two @aHeld_three))))) (And.intro (And.intro (And.intro (And.intro @aHeldL_plain @aHeldL_guard) (And.intro @aHeldT_plain (And.intro @aHeldT_guard @aTakeY_eq))) (And.intro (And.intro @aTakeN_eq @aTakeP_build) (And.intro @aTakeP_move (And.intro @aTakeP_assign @aTakeP_pick)))) (And.intro (And.intro (And.intro @aTakeP_load @aTakeP_field) (And.intro @aTakeP_index (And.intro @aTakeP_fieldV @aTakeP_bin))) (And.intro (And.intro @aTakeP_un @aTakeP_extract) (And.intro @aTakeP_conv (And.intro @aTakeP_call @aTakeP_clo)))))) (And.intro (And.intro (And.intro (And.intro (And.intro @aHeldE_eq @aHeldE_guard) (And.intro @aExecK_eq (And.intro @aExec_assign @aExec_load))) (And.intro (And.intro @aExec_store @aExec_append) (And.intro @aExec_call (And.intro @aExec_buildSlice @aPure_move)))) (And.intro (And.intro (And.intro @aPure_assign @aPure_pick) (And.intro @aPure_load (And.intro @aPure_field @aPure_index))) (And.intro (And.intro @aPure_bin @aPure_un) (And.intro @aPure_extract (And.intro @aPure_len @aPure_makeFunc))))) (And.intro (And.intro (And.intro (And.intro @aOp_fieldV @aDop_fieldV) (And.intro @aPure_fieldV (And.intro @aOp_slice @aDop_slice))) (And.intro (And.intro @aPure_slice @aTakeP_slice) (And.intro @aExec_makeSlice (And.intro @aPure_max @aPure_min)))) (And.intro (And.intro (And.intro @aOp_max @aOp_min) (And.intro @aDop_max (And.intro @aDop_min @aExec_alloc))) (And.intro (And.intro @aOp_nilChk @aDop_nilChk) (And.intro @aTakeP_nilChk (And.intro @aPure_nilChk @aExec_box))))))))
theorem ruB : type_of% (And.intro (And.intro (And.intro (And.intro (And.intro @ATab.get_cons (And.intro @Nat.zero_add @Nat.add_zero)) (And.intro (And.intro @List.getElem?_cons_zero.{0} @List.getElem?_cons_succ.{0}) (And.intro @List.getElem?_toArray.{0} @Option.bind_some.{0,0}))) (And.intro (And.intro (And.intro @List.map_cons.{0,0} @List.map_nil.{0,0}) (And.intro @List.length_cons.{0} @List.length_nil.{0})) (And.intro (And.intro @List.drop_succ_cons.{0} @List.drop_zero.{0}) (And.intro @List.take_succ_cons.{0} @List.take_zero.{0})))) (And.intro (And.intro (And.intro (And.intro @List.headD_cons.{0} @List.length_map.{0,0}) (And.intro @Bool.not_true @Bool.not_false)) (And.intro (And.intro @true_and @and_true) (And.intro @Option.getD_some.{0} @List.cons_append.{0}))) (And.intro (And.intro (And.intro @List.nil_append.{0} @List.append_nil.{0}) (And.intro @Nat.succ_ne_self @Nat.one_ne_zero)) (And.intro (And.intro @AV.c.injEq @Value.bool.injEq) (And.intro @Value.int.injEq @false_implies))))) (And.intro (And.intro (And.intro (And.intro (And.intro @decide_eq_true_eq @decide_eq_false_iff_not) (And.intro @Int.natCast_nonneg @Int.ofNat_lt)) (And.intro (And.intro @Int.ofNat_le @Int.toNat_natCast) (And.intro @not_false_eq_true @not_true_eq_false))) (And.intro (And.intro (And.intro @Nat.le_refl @false_and) (And.intro @and_false @Nat.succ_ne_zero)) (And.intro (And.intro @imp_self @true_implies) (And.intro @decide_true @decide_false)))) (And.intro (And.intro (And.intro (And.intro @List.set_cons_zero.{0} @List.set_cons_succ.{0}) (And.intro @Nat.zero_le @List.mem_cons.{0})) (And.intro (And.intro @List.not_mem_nil.{0} @or_false) (And.intro @List.flatMap_cons.{0,0} @List.flatMap_nil.{0,0}))) (And.intro (And.intro (And.intro @Option.map_some.{0,0} @Option.map_none.{0,0}) (And.intro @Option.isSome_some.{0} @Option.isSome_none.{0})) (And.intro (And.intro @Int.le_refl @List.take_length.{0}) (And.intro @true_or @or_true)))))) :=
  (And.intro (And.intro (And.intro (And.intro (And.intro @ATab.get_cons (And.intro @Nat.zero_add @Nat.add_zero)) (And.intro (And.intro @List.getElem?_cons_zero.{0} @List.getElem?_cons_succ.{0}) (And.intro @List.getElem?_toArray.{0} @Option.bind_some.{0,0}))) (And.intro (And.intro (And.intro @List.map_cons.{0,0} @List.map_nil.{0,0}) (And.intro @List.length_cons.{0} @List.length_nil.{0})) (And.intro (And.intro @List.drop_succ_cons.{0} @List.drop_zero.{0}) (And.intro @List.take_succ_cons.{0} @List.take_zero.{0})))) (And.intro (And.intro (And.intro (And.intro @List.headD_cons.{0} @List.length_map.{0,0}) (And.intro @Bool.not_true @Bool.not_false)) (And.intro (And.intro @true_and @and_true) (And.intro @Option.getD_some.{0} @List.cons_append.{0}))) (And.intro (And.intro (And.intro @List.nil_append.{0} @List.append_nil.{0}) (And.intro @Nat.succ_ne_self @Nat.one_ne_zero)) (And.intro (And.intro @AV.c.injEq @Value.bool.injEq) (And.intro @Value.int.injEq @false_implies))))) (And.intro (And.intro (And.intro (And.intro (And.intro @decide_eq_true_eq @decide_eq_false_iff_not) (And.intro @Int.natCast_nonneg @Int.ofNat_lt)) (And.intro (And.intro @Int.ofNat_le @Int.toNat_natCast) (And.intro @not_false_eq_true @not_true_eq_false))) (And.intro (And.intro (And.intro @Nat.le_refl @false_and) (And.intro @and_false @Nat.succ_ne_zero)) (And.intro (And.intro @imp_self @true_implies) (And.intro @decide_true @decide_false)))) (And.intro (And.intro (And.intro (And.intro @List.set_cons_zero.{0} @List.set_cons_succ.{0}) (And.intro @Nat.zero_le @List.mem_cons.{0})) (And.intro (And.intro @List.not_mem_nil.{0} @or_false) (And.intro @List.flatMap_cons.{0,0} @List.flatMap_nil.{0,0}))) (And.intro (And.intro (And.intro @Option.map_some.{0,0} @Option.map_none.{0,0}) (And.intro @Option.isSome_some.{0} @Option.isSome_none.{0})) (And.intro (And.intro @Int.le_refl @List.take_length.{0}) (And.intro @true_or @or_true))))))
theorem ruW : type_of% (And.intro (And.intro (And.intro (And.intro @ATab.get_cons @and_true) (And.intro @true_and (And.intro @AV.c.injEq @Value.int.injEq))) (And.intro (And.intro @Value.bool.injEq @Bool.not_true) (And.intro @Bool.not_false (And.intro @Nat.succ_ne_self @Nat.one_ne_zero)))) (And.intro (And.intro (And.intro @Nat.succ_ne_zero @not_true_eq_false) (And.intro @not_false_eq_true (And.intro @Int.natCast_nonneg @List.map_cons.{0,0}))) (And.intro (And.intro @List.map_nil.{0,0} (And.intro @List.cons_append.{0} @List.nil_append.{0})) (And.intro @List.append_nil.{0} (And.intro @decide_true @decide_false))))) :=
  (And.intro (And.intro (And.intro (And.intro @ATab.get_cons @and_true) (And.intro @true_and (And.intro @AV.c.injEq @Value.int.injEq))) (And.intro (And.intro @Value.bool.injEq @Bool.not_true) (And.intro @Bool.not_false (And.intro @Nat.succ_ne_self @Nat.one_ne_zero)))) (And.intro (And.intro (And.intro @Nat.succ_ne_zero @not_true_eq_false) (And.intro @not_false_eq_true (And.intro @Int.natCast_nonneg @List.map_cons.{0,0}))) (And.intro (And.intro @List.map_nil.{0,0} (And.intro @List.cons_append.{0} @List.nil_append.{0})) (And.intro @List.append_nil.{0} (And.intro @decide_true @decide_false)))))
end
section
open Go.RowKit
theorem enters_of {P : Program} {f : FuncId} {fn : Func} {c : Code} (hf : P.funcs[f]? = some fn) (hb : fn.body = some c) (hname : (fn.name == "runtime.NumGoroutine") = false) : Enters P f := fun args w => by
  have : ¬ fn.name = "runtime.NumGoroutine" := by simpa using hname
  simp [callFunc, Sem.run_bind, hf, this, hb]
theorem rtc {w : World} {S : Nat → Prop} {v u : Value} (h : RT w S v (.c u)) : v = u := by cases h; rfl
theorem callT {u : Bool} {P : Program} {st : ASt} {g : FuncId} {args : List AV} {K : AV → ASt → Prop} {r : AV} (h : ADet P g (args.map (dref st.tab)) ⟨r, [], 0⟩) (ho : roL args ∨ r.plain) (hk : K (r.shift st.next) st) : aCall u P st g args K :=
  callR h (ho.imp id fun h => ⟨h, trivial⟩) hk
theorem take_snoc {α β : Type} (f : α → β) (l : List α) {k : Nat} (h : k < l.length) : (l.take (k + 1)).map f = (l.take k).map f ++ [f l[k]] := by
  rw [List.take_add_one, List.getElem?_eq_getElem h, List.map_append]
  rfl
theorem callO {u : Bool} {P : Program} {st : ASt} {g : FuncId} {args : List AV} {K : AV → ASt → Prop} {e : TypeId} {sz : Nat} {rows : List (List AV)} (h : ADet P g (args.map (dref st.tab)) (own e sz rows)) (ho : roL args ∨ ∀ row ∈ rows, ∀ av ∈ row, av.plain) (hk : K (.osl st.next) ⟨st.n, st.env, (st.next, some (.row e sz rows)) :: st.tab, st.next + 1⟩) : aCall u P st g args K :=
  callR h (ho.imp id fun h => ⟨trivial, h, trivial⟩) (by
    have e1 : (own e sz rows).r.shift st.next = .osl st.next := by simp [own, AV.shift]
    have e2 : (own e sz rows).tab.shift st.next = [(st.next, some (.row e sz rows))] := by simp [own, ATab.shift, AObj.shift]
    rw [e1, e2]
    exact hk)
theorem ints_plain {l : List Int} : ∀ row ∈ l.map (fun n => [eI n]), ∀ av ∈ row, av.plain := fun row hr av ha => by
  obtain ⟨n, _, rfl⟩ := List.mem_map.1 hr
  simp at ha
  subst ha
  trivial
inductive Fits0 : AV → AV → Prop
  | refl (a : AV) : Fits0 a a
  | nil (sz : Nat) : Fits0 (.c (.slice none 0 0)) (.sl sz [])
def RowFit : List AV → List AV → Prop
  | [], [] => True
  | a :: l, b :: l' => Fits0 a b ∧ RowFit l l'
  | _, _ => False
def RowsFit : List (List AV) → List (List AV) → Prop
  | [], [] => True
  | a :: l, b :: l' => RowFit a b ∧ RowsFit l l'
  | _, _ => False
inductive Fits1 : AV → AV → Prop
  | refl (a : AV) : Fits1 a a
  | nil (sz : Nat) : Fits1 (.c (.slice none 0 0)) (.sl sz [])
  | rows {sz : Nat} {r r' : List (List AV)} (h : RowsFit r r') : Fits1 (.sl sz r) (.sl sz r')
def FitsL : List AV → List AV → Prop
  | [], [] => True
  | a :: l, b :: l' => Fits1 a b ∧ FitsL l l'
  | _, _ => False
inductive FitsA : AV → AV → Prop
  | one {a b : AV} (h : Fits1 a b) : FitsA a b
  | agg {l l' : List AV} (h : FitsL l l') : FitsA (.agg l) (.agg l')
def FitsAs : List AV → List AV → Prop
  | [], [] => True
  | a :: l, b :: l' => FitsA a b ∧ FitsAs l l'
  | _, _ => False
theorem Fits0.rt {w : World} {S : Nat → Prop} {v : Value} {a b : AV} (h : Fits0 a b) (hr : RT w S v a) : RT w S v b := by
  cases h with
  | refl => exact hr
  | nil sz =>
    rw [rtc hr]
    exact .sl none 0 0 sz [] 0 0 (fun _ _ => undef) rfl (Nat.le_refl _) (by omega) (fun h => by omega) (by simp) (fun h => by omega) (by simp) (by simp)
theorem RowFit.spec : ∀ {l l' : List AV}, RowFit l l' → l.length = l'.length ∧ ∀ (j : Nat) (b : AV), l'[j]? = some b → ∃ a, l[j]? = some a ∧ Fits0 a b
  | [], [], _ => ⟨rfl, fun j b h => by simp at h⟩
  | a :: l, b :: l', h => by
    obtain ⟨h1, h2⟩ := RowFit.spec h.2
    refine ⟨by simp [h1], fun j b' h3 => ?_⟩
    cases j with
    | zero =>
      simp at h3
      subst h3
      exact ⟨a, rfl, h.1⟩
    | succ j => exact h2 j b' (by simpa using h3)
  | [], _ :: _, h => h.elim
  | _ :: _, [], h => h.elim
theorem RowsFit.spec : ∀ {l l' : List (List AV)}, RowsFit l l' → l.length = l'.length ∧ ∀ (j : Nat) (b : List AV), l'[j]? = some b → ∃ a, l[j]? = some a ∧ RowFit a b
  | [], [], _ => ⟨rfl, fun j b h => by simp at h⟩
  | a :: l, b :: l', h => by
    obtain ⟨h1, h2⟩ := RowsFit.spec h.2
    refine ⟨by simp [h1], fun j b' h3 => ?_⟩
    cases j with
    | zero =>
      simp at h3
      subst h3
      exact ⟨a, rfl, h.1⟩
    | succ j => exact h2 j b' (by simpa using h3)
  | [], _ :: _, h => h.elim
  | _ :: _, [], h => h.elim
theorem Fits1.rt {w : World} {S : Nat → Prop} {v : Value} {a b : AV} (h : Fits1 a b) (hr : RT w S v a) : RT w S v b := by
  cases h with
  | refl => exact hr
  | nil sz => exact (Fits0.nil sz).rt hr
  | rows h =>
    rename_i sz r r'
    obtain ⟨hl, hx⟩ := h.spec
    cases hr with
    | sl A n cap sz rows b o U hn hc hm hA hs hcell hone hr =>
      have key : ∀ i j row' av', r'[i]? = some row' → row'[j]? = some av' → ∃ row av, r[i]? = some row ∧ row[j]? = some av ∧ Fits0 av av' := fun i j row' av' h1 h2 => by
        obtain ⟨row, h3, h4⟩ := hx i row' h1
        obtain ⟨av, h5, h6⟩ := h4.spec.2 j av' h2
        exact ⟨row, av, h3, h5, h6⟩
      refine .sl A n cap sz r' b o U (hn.trans hl) hc hm hA (fun row' hrow => ?_) (fun h0 i j row' av' h1 h2 => ?_) (fun i j row' av' h1 h2 => ?_) (fun i j row' av' h1 h2 => ?_)
      · obtain ⟨i, hi⟩ := List.getElem?_of_mem hrow
        obtain ⟨row, h3, h4⟩ := hx i row' hi
        rw [← h4.spec.1]
        exact hs row (List.mem_of_getElem? h3)
      · obtain ⟨row, av, h3, h4, _⟩ := key i j row' av' h1 h2
        exact hcell h0 i j row av h3 h4
      · obtain ⟨row, av, h3, h4, _⟩ := key i j row' av' h1 h2
        exact hone i j row av h3 h4
      · obtain ⟨row, av, h3, h4, h5⟩ := key i j row' av' h1 h2
        exact h5.rt (hr i j row av h3 h4)
theorem FitsL.spec : ∀ {l l' : List AV}, FitsL l l' → l.length = l'.length ∧ ∀ (j : Nat) (a b : AV), l[j]? = some a → l'[j]? = some b → Fits1 a b
  | [], [], _ => ⟨rfl, fun j a b h => by simp at h⟩
  | a :: l, b :: l', h => by
    obtain ⟨h1, h2⟩ := FitsL.spec h.2
    refine ⟨by simp [h1], fun j a' b' h3 h4 => ?_⟩
    cases j with
    | zero =>
      simp at h3 h4
      subst h3 h4
      exact h.1
    | succ j => exact h2 j a' b' (by simpa using h3) (by simpa using h4)
  | [], _ :: _, h => h.elim
  | _ :: _, [], h => h.elim
theorem FitsA.rt {w : World} {S : Nat → Prop} {v : Value} {a b : AV} (h : FitsA a b) (hr : RT w S v a) : RT w S v b := by
  cases h with
  | one h => exact h.rt hr
  | agg h =>
    obtain ⟨hl, hx⟩ := h.spec
    cases hr with
    | agg xs cs hn hc =>
      refine .agg xs _ (hn.trans hl) fun j x av h1 h2 => ?_
      rename_i l l'
      have hj : j < l'.length := (List.getElem?_eq_some_iff.1 h2).1
      obtain ⟨a, ha⟩ : ∃ a, l[j]? = some a := ⟨_, List.getElem?_eq_getElem (by omega)⟩
      exact (hx j a av ha h2).rt (hc j x a h1 ha)
theorem FitsAs.spec : ∀ {l l' : List AV}, FitsAs l l' → l.length = l'.length ∧ ∀ (j : Nat) (a b : AV), l[j]? = some a → l'[j]? = some b → FitsA a b
  | [], [], _ => ⟨rfl, fun j a b h => by simp at h⟩
  | a :: l, b :: l', h => by
    obtain ⟨h1, h2⟩ := FitsAs.spec h.2
    refine ⟨by simp [h1], fun j a' b' h3 h4 => ?_⟩
    cases j with
    | zero =>
      simp at h3 h4
      subst h3 h4
      exact h.1
    | succ j => exact h2 j a' b' (by simpa using h3) (by simpa using h4)
  | [], _ :: _, h => h.elim
  | _ :: _, [], h => h.elim
theorem ADet.fits {P : Program} {f : FuncId} {args args' : List AV} {R : Res} (h : ADet P f args' R) (hf : FitsAs args args') : ADet P f args R :=
  ⟨h.1, fun S w vs h1 h2 h3 => h.2 S w vs h1 (h2.trans hf.spec.1) fun j v av h4 h5 => by
    have hj : j < args'.length := (List.getElem?_eq_some_iff.1 h5).1
    obtain ⟨a, ha⟩ : ∃ a, args[j]? = some a := ⟨_, List.getElem?_eq_getElem (by rw [hf.spec.1]; exact hj)⟩
    exact (hf.spec.2 j a av ha h5).rt (h3 j v a h4 ha)⟩
theorem ARel.fits {P : Program} {f : FuncId} {args args' : List AV} {Post : Res → Prop} (h : ARel P f args' Post) (hf : FitsAs args args') : ARel P f args Post :=
  ⟨h.1, fun S w vs h1 h2 h3 => h.2 S w vs h1 (h2.trans hf.spec.1) fun j v av h4 h5 => by
    have hj : j < args'.length := (List.getElem?_eq_some_iff.1 h5).1
    obtain ⟨a, ha⟩ : ∃ a, args[j]? = some a := ⟨_, List.getElem?_eq_getElem (by rw [hf.spec.1]; exact hj)⟩
    exact (hf.spec.2 j a av ha h5).rt (h3 j v a h4 ha)⟩
theorem callPI {u : Bool} {P : Program} {st : ASt} {g : FuncId} {args : List AV} {dst : Option Nat} {K : ASt → Prop} (h : ARel P g (args.map (dref st.tab)) fun R => ∃ n, R = val (.int .i64 n)) (hk : ∀ n, K (st.put dst (.c (.int .i64 n)))) : aCall u P st g args (aK2 dst K) :=
  callP h fun R ⟨n, hR⟩ => by subst hR; exact ⟨.inr ⟨trivial, trivial⟩, hk n⟩
theorem callPB {u : Bool} {P : Program} {st : ASt} {g : FuncId} {args : List AV} {dst : Option Nat} {K : ASt → Prop} {Q : Bool → Prop} (h : ARel P g (args.map (dref st.tab)) fun R => ∃ b, R = val (.bool b) ∧ Q b) (hk : ∀ b, Q b → K (st.put dst (.c (.bool b)))) : aCall u P st g args (aK2 dst K) :=
  callP h fun R ⟨b, hR, hq⟩ => by subst hR; exact ⟨.inr ⟨trivial, trivial⟩, hk b hq⟩
theorem callPO {u : Bool} {P : Program} {st : ASt} {g : FuncId} {args : List AV} {K : AV → ASt → Prop} {e : TypeId} {Q : List Int → Prop} (h : ARel P g (args.map (dref st.tab)) fun R => ∃ o : List Int, R = own e 1 (o.map fun n => [eI n]) ∧ Q o) (hk : ∀ o, Q o → K (.osl st.next) ⟨st.n, st.env, (st.next, some (.row e 1 (o.map fun n => [eI n]))) :: st.tab, st.next + 1⟩) : aCall u P st g args K :=
  callP h fun R ⟨o, hR, hq⟩ => by
    subst hR
    have e1 : (own e 1 (o.map fun n => [eI n])).r.shift st.next = .osl st.next := by simp [own, AV.shift]
    have e2 : (own e 1 (o.map fun n => [eI n])).tab.shift st.next = [(st.next, some (.row e 1 (o.map fun n => [eI n])))] := by simp [own, ATab.shift, AObj.shift]
    rw [e1, e2]
    exact ⟨.inr ⟨trivial, ints_plain, trivial⟩, hk o hq⟩
theorem map_snoc (l : List Int) (n : Int) : (l ++ [n]).map (fun n => [eI n]) = l.map (fun n => [eI n]) ++ [[eI n]] := by simp
theorem map_app (a b : List Int) : (a ++ b).map (fun n => [eI n]) = a.map (fun n => [eI n]) ++ b.map (fun n => [eI n]) := by simp
section
variable {P : Program} {w : World} {d : Nat} {xs ys : Array Value} {f : Field} {fs : List Field}
theorem eqF_cons {x y : Value} {b : Bool} {u : TypeDesc} (hn : f.name ≠ "_") (hu : P.underlying f.type = some u) (hs : ∀ fs, u ≠ .struct fs) (ha : ∀ n e, u ≠ .array n e) (hx : xs[f.offset]? = some x) (hy : ys[f.offset]? = some y) (he : (Op.equalIn d f.type x y).run P w = .ok b w) : (Op.eqFields d xs ys (f :: fs)).run P w = if b = true then (Op.eqFields d xs ys fs).run P w else .ok false w := by
  have hp : ∀ (zs : Array Value) (z : Value), zs[f.offset]? = some z → (part f.type zs f.offset).run P w = .ok z w := fun zs z hz => by
    simp only [part, Sem.run_bind, isAgg, run_underlying hu, Result.andThen_ok]
    cases u with
    | struct fs => exact absurd rfl (hs fs)
    | array n e => exact absurd rfl (ha n e)
    | _ => simp [hz]
  simp only [Op.eqFields, hn, ne_eq, not_false_eq_true, if_true, Sem.run_bind, hp xs x hx, hp ys y hy, Result.andThen_ok, he]
  cases b <;> simp
def cellEq : Value → Value → Option Bool
  | .bool a, .bool b => some (a == b)
  | .int k a, .int k' b => if k = k' then some (a == b) else none
  | .string a, .string b => some (a == b)
  | _, _ => none
def tyFits (P : Program) (t : TypeId) : Value → Bool
  | .bool _ => match P.underlying t with | some .bool => true | _ => false
  | .int k _ => match P.underlying t with | some (.int _) => true | _ => false
  | .string _ => match P.underlying t with | some .string => true | _ => false
  | _ => false
theorem cell_eq {t : TypeId} {x y : Value} {b : Bool} (h : cellEq x y = some b) (hx : tyFits P t x = true) : (Op.equalIn (d + 1) t x y).run P w = .ok b w ∧ ∃ u, P.underlying t = some u ∧ (∀ fs, u ≠ .struct fs) ∧ ∀ n e, u ≠ .array n e := by
  cases x <;> cases y <;> simp [cellEq] at h
  all_goals (unfold tyFits at hx; simp only at hx; split at hx)
  all_goals try cases hx
  · rename_i hu
    exact ⟨by simp [Op.equalIn, run_underlying hu, h], _, hu, by simp, by simp⟩
  · rename_i hu
    obtain ⟨rfl, rfl⟩ := h
    exact ⟨by simp [Op.equalIn, run_underlying hu], _, hu, by simp, by simp⟩
  · rename_i hu
    exact ⟨by simp [Op.equalIn, run_underlying hu, h], _, hu, by simp, by simp⟩
def cellsEq : List (Value × Value) → Option Bool
  | [] => some true
  | (x, y) :: l => match cellEq x y, cellsEq l with
    | some b, some c => some (b && c)
    | _, _ => none
theorem fields_eq : ∀ (fs : List Field) (l : List (Value × Value)) (b : Bool), fs.length = l.length → (∀ (k : Nat) (f : Field) (p : Value × Value), fs[k]? = some f → l[k]? = some p → f.name ≠ "_" ∧ tyFits P f.type p.1 = true ∧ xs[f.offset]? = some p.1 ∧ ys[f.offset]? = some p.2) → cellsEq l = some b → (Op.eqFields (d + 1) xs ys fs).run P w = .ok b w
  | [], [], b, _, _, h => by
    cases h
    simp [Op.eqFields]
  | f :: fs, (x, y) :: l, b, hl, hf, h => by
    unfold cellsEq at h
    split at h
    · rename_i b1 b2 h1 h2
      cases h
      obtain ⟨h3, h4, h5, h6⟩ := hf 0 f (x, y) rfl rfl
      obtain ⟨h7, u, hu, h8, h9⟩ := cell_eq (P := P) (w := w) (d := d) h1 h4
      rw [eqF_cons h3 hu h8 h9 h5 h6 h7, fields_eq fs l b2 (by simpa using hl) (fun k f p hk hp => hf (k + 1) f p (by simpa using hk) (by simpa using hp)) h2]
      cases b1 <;> simp
    · cases h
theorem structRun {t : TypeId} {op : BinOp} (l : List (Value × Value)) {b : Bool} (ht : P.underlying t = some (.struct (P.fieldsOf t))) (hs : P.stoodInHeld t = false) (hg : P.eqGuardType P.depth t = false) (hl : (P.fieldsOf t).toList.length = l.length)
    (hf : ∀ (k : Nat) (f : Field) (p : Value × Value), (P.fieldsOf t).toList[k]? = some f → l[k]? = some p → f.name ≠ "_" ∧ tyFits P f.type p.1 = true ∧ xs[f.offset]? = some p.1 ∧ ys[f.offset]? = some p.2) (h : cellsEq l = some b) (hop : op = .eql ∨ op = .neq) : BinRun P op t (.agg xs) (.agg ys) (.bool (if op matches .eql then b else !b)) := fun w x y => by
  have he : ∀ w, (Op.equalIn 10000 t (.agg xs) (.agg ys)).run P w = .ok b w := fun w => by
    rw [run_equalIn_agg w 9999 t xs ys ht hs]
    exact fields_eq (P := P) (d := 9998) _ l b hl hf h
  rcases hop with rfl | rfl
  · simp only [Sem.run_bind, run_eqGuard_agg w _ t x y xs ys hg, Result.andThen_ok, run_eql_struct, he]
    rfl
  · simp only [Sem.run_bind, run_eqGuard_agg w _ t x y xs ys hg, Result.andThen_ok, run_neq_struct, he]
    rfl
end
end
section
open Go.RowKit

section
variable {P : Program} {cx : Cx} {a : Act} {w w' w'' : World} {st : ASt} {tab tab' tab'' : ATab} {L L' L'' : Nat → Value} {nx nx' nx'' : Nat}
theorem Fr.refl : Fr cx w tab L nx w tab L nx := ⟨Ext.refl .., Nat.le_refl _, fun _ _ _ => rfl, fun id o g h1 h2 _ => ⟨id, o, h1, h2⟩, Nat.le_refl _⟩
theorem Fr.trans (h : Fr cx w tab L nx w' tab' L' nx') (k : Fr cx w' tab' L' nx' w'' tab'' L'' nx'') : Fr cx w tab L nx w'' tab'' L'' nx'' :=
  ⟨⟨fun b hb => (k.ext.blk b (h.ext.sub b hb)).trans (h.ext.blk b hb), fun b hb => k.ext.sub b (h.ext.sub b hb), fun id p hid hp => h.ext.loc id p hid (k.ext.loc id p (Nat.lt_of_lt_of_le hid h.next) hp)⟩,
   Nat.le_trans h.size k.size,
   fun j hj hn => (k.keep j (Nat.lt_of_lt_of_le hj h.size) fun id o h1 h2 => (h.young id o j h1 h2 hj).elim fun id2 ⟨o2, h3, h4⟩ => hn id2 o2 h3 h4).trans (h.keep j hj hn),
   fun id o g h1 h2 hg => (k.young id o g h1 h2 (Nat.lt_of_lt_of_le hg h.size)).elim fun id2 ⟨o2, h3, h4⟩ => h.young id2 o2 g h3 h4 hg,
   Nat.le_trans h.next k.next⟩
theorem put_tab (st : ASt) (d : Option Nat) (av : AV) : (st.put d av).tab = st.tab := by cases d <;> rfl
theorem put_next (st : ASt) (d : Option Nat) (av : AV) : (st.put d av).next = st.next := by cases d <;> rfl
theorem fr_merge (hy : ∀ id o, tab.get id = some o → id < nx) (hb : Below w.heap.size w w') (hold : ∀ id, id < nx → tab'.get id = tab.get id ∧ L' id = L id) (hnew : ∀ id o g, nx ≤ id → tab'.get id = some o → vblk (L' id) = some g → w.heap.size ≤ g) (hn : nx ≤ nx') : Fr cx w tab L nx w' tab' L' nx' :=
  ⟨ext_merge hb hold hy hnew, hb.size, fun k hk _ => hb.block k hk, fun id o g h1 h2 hg => by
    rcases Nat.lt_or_ge id nx with hlt | hge
    · exact ⟨id, o, by rw [← (hold id hlt).1]; exact h1, by rw [← (hold id hlt).2]; exact h2⟩
    · exact absurd (hnew id o g hge h1 h2) (by omega), hn⟩
theorem fr_new (h : Conc cx a w st L) (hb : Below w.heap.size w w') {v : Value} {ob : AObj} (hnew : ∀ g, vblk v = some g → w.heap.size ≤ g) : Fr cx w st.tab L st.next w' ((st.next, some ob) :: st.tab) (updL L st.next v) (st.next + 1) :=
  fr_merge (fun id o hid => (h.young id o hid).1) hb (fun id hid => by unfold updL; rw [ATab.get_cons, if_neg (by omega), if_neg (by omega)]; exact ⟨rfl, rfl⟩)
    (fun id o g h1 h2 h3 => by
      rw [ATab.get_cons] at h2
      unfold updL at h3
      split at h2
      · rename_i e
        rw [if_pos e] at h3
        exact hnew g h3
      · have := (h.young id o h2).1
        omega) (Nat.le_succ _)
theorem fr_upd {id : Nat} {o o' : AObj} (hid : st.tab.get id = some o) (hsz : o'.sz = o.sz) (hs : w'.heap.size = w.heap.size) (hb : ∀ k, vblk (L id) ≠ some k → w'.heap[k]? = w.heap[k]?) : Fr cx w st.tab L st.next w' ((id, some o') :: st.tab) L st.next := by
  have hget : ∀ k ok, ATab.get ((id, some o') :: st.tab) k = some ok → ∃ ok', st.tab.get k = some ok' ∧ ok.sz = ok'.sz := fun k ok hk => by
    rw [ATab.get_cons] at hk
    split at hk
    · rename_i e
      cases hk
      exact ⟨o, by rw [e]; exact hid, hsz⟩
    · exact ⟨ok, hk, rfl⟩
  refine ⟨⟨fun b hb' => hb b (hb'.2.2 id o hid), fun b hb' => ⟨by rw [hs]; exact hb'.1, hb'.2.1, fun k ok hk => ?_⟩, fun k p _ hk => ?_⟩, by rw [hs]; exact Nat.le_refl _, fun k hk hn => hb k (hn id o hid), fun k ok g h1 h2 _ => ?_, Nat.le_refl _⟩
  · obtain ⟨ok', h1, _⟩ := hget k ok hk
    exact hb'.2.2 k ok' h1
  · unfold Kx at *
    cases ho : ATab.get ((id, some o') :: st.tab) k with
    | none => simp [ho] at hk
    | some ok =>
      obtain ⟨ok', h1, h2⟩ := hget k ok ho
      rw [h1]
      simpa [ho, h2] using hk
  · obtain ⟨ok', h3, _⟩ := hget k ok h1
    exact ⟨k, ok', h3, h2⟩
theorem fr_frz1 (id : Nat) : Fr cx w st.tab L st.next w (frz1 st id).tab L (frz1 st id).next := by
  unfold frz1
  split
  · rename_i e sz rows hid
    have hget : ∀ k ok, ATab.get ((id, none) :: frzTab id sz rows st.tab) k = some ok → ∃ ok', st.tab.get k = some ok' ∧ ok.sz = ok'.sz := fun k ok hk => by
      rw [ATab.get_cons, frzTab_get] at hk
      split at hk
      · cases hk
      · cases hg : st.tab.get k with
        | none => simp [hg] at hk
        | some o' =>
          simp [hg] at hk
          exact ⟨o', rfl, by rw [← hk, frz_sz]⟩
    refine ⟨⟨fun _ _ => rfl, fun b hb' => ⟨hb'.1, hb'.2.1, fun k ok hk => ?_⟩, fun k p _ hk => ?_⟩, Nat.le_refl _, fun k hk hn => rfl, fun k ok g h1 h2 _ => ?_, Nat.le_refl _⟩
    · obtain ⟨ok', h1, _⟩ := hget k ok hk
      exact hb'.2.2 k ok' h1
    · unfold Kx at *
      cases ho : ATab.get ((id, none) :: frzTab id sz rows st.tab) k with
      | none => simp [ho] at hk
      | some ok =>
        obtain ⟨ok', h1, h2⟩ := hget k ok ho
        rw [h1]
        simpa [ho, h2] using hk
    · obtain ⟨ok', h3, _⟩ := hget k ok h1
      exact ⟨k, ok', h3, h2⟩
  · exact Fr.refl
theorem fr_frzs : ∀ (ids : List Nat) {st : ASt}, Fr cx w st.tab L st.next w (frzs st ids).tab L (frzs st ids).next
  | [], _ => Fr.refl
  | id :: ids, st => (fr_frz1 id).trans (fr_frzs ids (st := frz1 st id))
theorem fr_app (h : Conc cx a w st L) {v v' : Value} {oid : Option Nat} {ob : AObj} (hg : w.grownBy w' v.ownBlock) (hv : vblk v' = v.ownBlock ∨ vblk v' = some w.heap.size)
    (hown : ∀ g, v.ownBlock = some g → ∃ id, oid = some id ∧ vblk (L id) = some g) (hoid : ∀ id, oid = some id → ∃ o, st.tab.get id = some o) : Fr cx w st.tab L st.next w' (appTab st.tab st.next oid ob) (updL L st.next v') (st.next + 1) := by
  have hnot : ∀ k, (∀ id o, st.tab.get id = some o → vblk (L id) ≠ some k) → some k ≠ v.ownBlock := fun k hn e => by
    obtain ⟨id, h1, h2⟩ := hown k e.symm
    obtain ⟨o, h3⟩ := hoid id h1
    exact hn id o h3 h2
  have hget : ∀ k ok, (appTab st.tab st.next oid ob).get k = some ok → k = st.next ∨ (k < st.next ∧ st.tab.get k = some ok) := fun k ok hk => by
    rw [appTab_get] at hk
    split at hk
    · exact .inl (by assumption)
    · split at hk
      · cases hk
      · exact .inr ⟨(h.young k ok hk).1, hk⟩
  refine ⟨⟨fun b hb => hg.block b hb.1 (hnot b hb.2.2), fun b hb => ⟨Nat.lt_of_lt_of_le hb.1 hg.size, hb.2.1, fun k ok hk => ?_⟩, fun k p hlt hk => ?_⟩, hg.size, fun k hk hn => hg.block k hk (hnot k hn), fun k ok g h1 h2 hlt => ?_, Nat.le_succ _⟩
  · unfold updL
    rcases hget k ok hk with rfl | ⟨hlt, ho⟩
    · rw [if_pos rfl]
      rcases hv with hv | hv
      · rw [hv]
        exact fun e => hnot b hb.2.2 e.symm
      · rw [hv]
        intro e
        cases e
        exact absurd hb.1 (by omega)
    · rw [if_neg (by omega)]
      exact hb.2.2 k ok ho
  · unfold Kx updL at *
    rw [if_neg (by omega)] at hk
    cases ho : (appTab st.tab st.next oid ob).get k with
    | none => simp [ho] at hk
    | some ok =>
      rcases hget k ok ho with rfl | ⟨_, h1⟩
      · omega
      · rw [h1]
        rw [ho] at hk
        exact hk
  · unfold updL at h2
    rcases hget k ok h1 with rfl | ⟨hlt', ho⟩
    · rw [if_pos rfl] at h2
      rcases hv with hv | hv
      · rw [hv] at h2
        obtain ⟨id, h3, h4⟩ := hown g h2
        obtain ⟨o, h5⟩ := hoid id h3
        exact ⟨id, o, h5, h4⟩
      · rw [hv] at h2
        cases h2
        omega
    · rw [if_neg (by omega)] at h2
      exact ⟨k, ok, ho, h2⟩
abbrev AfterF (cx : Cx) (a : Act) (w : World) (st : ASt) (L : Nat → Value) (K : ASt → Prop) : Act → World → Prop := fun a' w' => ∃ st' L', K st' ∧ Conc cx a' w' st' L' ∧ Fr cx w st.tab L st.next w' st'.tab L' st'.next ∧ a'.defers = a.defers
theorem put_defers (a : Act) (d : Option Nat) (v : Value) : (a.put d v).defers = a.defers := by cases d <;> rfl
theorem pure_wpF {o : Oper} {K : ASt → Prop} {Q : Exit → Act → World → Prop} (h : Conc cx a w st L) (hp : aPure P st.tab (aEv st) o.op (aK st o.dst K)) : o.wp P a w (AfterF cx a w st L K) Q := by
  obtain ⟨v, av, h1, h2, h3, h4, _⟩ := pure_ok h.lay (fun id o hid => (h.young id o hid).2) (eval_ok h) hp
  exact wp_value (h4 w (Below.refl _ _)) ⟨_, L, h1, conc_pure h h2 h3 o.dst, (by rw [put_tab, put_next]; exact Fr.refl), put_defers _ _ _⟩
def fOp (o : Oper) : Bool := match o.op with
  | .slice .. => false
  | .defer _ => false
  | _ => true
theorem op_okF {o : Oper} {K : ASt → Prop} {Q : Exit → Act → World → Prop} (h : Conc cx a w st L) (hp : aOp P o K st) (hf : fOp o = true) : o.wp P a w (AfterF cx a w st L K) Q := by
  obtain ⟨dst, op, ty, pos, aft, gd⟩ := o
  unfold aOp at hp
  simp only at hp
  split at hp
  · rename_i t x
    obtain ⟨h1, h2⟩ := hp
    have he := eval_ok h x
    obtain ⟨h3, h4⟩ := box_ok (P := P) (t := t) h he.1 he.2 h1 dst
    exact wp_value (by simp [execOp, h3]) ⟨_, _, h2, h4, (by rw [put_tab, put_next]; exact fr_new h ((Below.refl _ _).alloc (Nat.le_refl _) _) (fun g hg => by simp [vblk] at hg; omega)), put_defers _ _ _⟩
  · rename_i t
    split at hp
    · rename_i z hz
      obtain ⟨h1, h2⟩ := hp
      obtain ⟨h3, h4⟩ := box_ok (P := P) (t := t) (av := .c z) h (.tree (.c z)) trivial h1 dst
      exact wp_value (by simp [execOp, alloc_run hz, h3]) ⟨_, _, h2, h4, (by rw [put_tab, put_next]; exact fr_new h ((Below.refl _ _).alloc (Nat.le_refl _) _) (fun g hg => by simp [vblk] at hg; omega)), put_defers _ _ _⟩
    · exact hp.elim
  · rename_i t p x
    unfold aStore at hp
    split at hp
    · rename_i id i j hpe
      split at hp
      · rename_i ty cells hid
        obtain ⟨rfl, h0, h1, h2, h3, h4⟩ := hp
        have hpv := (eval_ok h p).1
        rw [hpe] at hpv
        have hx := eval_ok h x
        obtain ⟨w', h5, h6, h7, h8⟩ := store_box_ok h hpv hid hx.1 hx.2 h0 h1 h2 h3 dst
        exact wp_skip' (by simp [execOp, h5]) ⟨_, _, h4, h6, (by rw [put_tab, put_next]; exact fr_upd hid (by simp only [AObj.sz, List.length_append, List.length_take, List.length_drop]; omega) h7 h8), put_defers _ _ _⟩
      · rename_i e sz rows hid
        obtain ⟨hi, h0, h1, h2, h3, h3', h4⟩ := hp
        have hpv := (eval_ok h p).1
        rw [hpe] at hpv
        have hx := eval_ok h x
        obtain ⟨w', h5, h6, h7, h8⟩ := store_row_ok h hpv hid hx.1 hx.2 hi h0 h1 h2 h3 h3' dst
        exact wp_skip' (by simp [execOp, h5]) ⟨_, _, h4, h6, (by rw [put_tab, put_next]; exact fr_upd hid rfl h7 h8), put_defers _ _ _⟩
      · exact hp.elim
    · exact hp.elim
  · rename_i t n parts
    unfold aBuildSlice at hp
    have hfr := fr_frzs (cx := cx) (w := w) (L := L) (st := st) (ownIds (parts.toList.flatMap fun (p : Nat × Operand) => aCells (aEv st p.2)))
    replace h := conc_frzs (ownIds (parts.toList.flatMap fun (p : Nat × Operand) => aCells (aEv st p.2))) h
    unfold aBuildSlice1 at hp
    split at hp
    · rename_i e sz by_ ht
      obtain ⟨⟨h1, rfl, h3, h5⟩, h6⟩ := hp
      obtain ⟨v', w', L', h7, h8, hb, rfl, hv⟩ := buildSlice_ok h ht h1 h3 h5 dst
      refine wp_value ?_ ⟨_, _, h6, h8, (by rw [put_tab, put_next]; exact hfr.trans (fr_new h hb fun g hg => by rw [hv] at hg; cases hg; exact Nat.le_refl _)), put_defers _ _ _⟩
      simp only [Array.toArray_toList] at h7
      simp [execOp]
      simp at h7
      simp [h7]
    · exact hp.elim
  · rename_i t l c
    unfold aMake at hp
    split at hp
    · rename_i e sz by_ k1 n k2 m ht hl hc
      split at hp
      · rename_i z hz
        obtain ⟨⟨rfl, h1, h2, h3, h4⟩, h5⟩ := hp
        have hl' := (eval_ok h l).1
        have hc' := (eval_ok h c).1
        rw [hl] at hl'
        rw [hc] at hc'
        obtain ⟨v', w', L', h6, h7, hb, rfl, hv⟩ := make_ok (k1 := k1) (k2 := k2) h ht hz h1 h2 h3 h4 dst
        exact wp_value (by simp [execOp, hl'.c_inv, hc'.c_inv, h6]) ⟨_, _, h5, h7, (by rw [put_tab, put_next]; exact fr_new h hb fun g hg => by rw [hv] at hg; cases hg; exact Nat.le_refl _), put_defers _ _ _⟩
      · exact hp.elim
    · exact hp.elim
  · rename_i t parts
    obtain ⟨v, cs, h1, h2, h3, h4⟩ := build_wp h hp
    refine wp_value ?_ ⟨_, _, h4, conc_pure h h1 h2 dst, (by rw [put_tab, put_next]; exact Fr.refl), put_defers _ _ _⟩
    simp [execOp, h3 w]
  · cases hf
  · rename_i c
    obtain ⟨callee, args, argTypes⟩ := c
    simp only at hp
    split at hp
    · split at hp
      · rename_i x y t t' h1 h2
        obtain rfl : args = #[x, y] := by cases args; simp_all
        obtain rfl : argTypes = #[t, t'] := by cases argTypes; simp_all
        obtain ⟨rfl, hp⟩ := hp
        unfold aAppend at hp
        split at hp
        · rename_i e sz by_ ht
          split at hp
          · rename_i oid rows rows2 hx hy
            obtain ⟨⟨h3, h4⟩, h5⟩ := hp
            obtain ⟨v', w', L', h6, h7, hg, rfl, hv, hown⟩ := append_ok (ty := ty) h (eval_ok h x).1 (eval_ok h y).1 ht hx hy (by simpa [maxLen] using h3) h4 dst
            have hoid : ∀ id, oid = some id → ∃ o, st.tab.get id = some o := fun id hid => by
              subst hid
              unfold aDst at hx
              split at hx
              · rename_i id' hid'
                split at hx
                · rename_i e' sz' rows' hget
                  split at hx
                  · cases hx
                    exact ⟨_, hget⟩
                  · cases hx
                · cases hx
              · cases hx
              · cases hx
            exact wp_value (by simp [execOp, resolve, invoke, builtin, h6]) ⟨_, _, h5, h7, (by rw [put_tab, put_next]; exact fr_app h hg hv hown hoid), put_defers _ _ _⟩
          · exact hp.elim
        · exact hp.elim
      · exact hp.elim
    · rename_i f
      obtain ⟨g, xs, cs, hg, hxn, hxr, hp, hcs⟩ := aFn_inv (eval_ok h f).1 (eval_ok h f).2 hp
      have hent : Enters P g := by
        rcases hp with (⟨R, hd, _⟩ | ⟨hd, _⟩) | ⟨_, (⟨_, _, _, _, _, _, _, _, hd, _⟩ | ⟨_, _, _, _, _, _, _, _, _, hd, _⟩ | ⟨hd, _⟩) | ⟨_, (⟨R, hd, _⟩ | ⟨hd, _⟩)⟩⟩
        · exact hd.1
        · exact hd
        · exact hd.1
        · exact hd.1
        · exact hd
        · exact hd.1
        · exact hd
      have hrun : (execOp a.eval { dst := dst, op := .call { callee := .value f, args := args, argTypes := argTypes }, type := ty, pos := pos, after := aft, guard := gd }).run P w = .ok (.enter g (args.map a.eval ++ xs)) w := by
        have := hent (args.map a.eval ++ xs) w
        simp [execOp, resolve, hg, Deferred.ofValue, invoke, this]
      unfold Oper.wp
      rw [hrun]
      show Calls P g (args.map a.eval ++ xs) w _
      have hargs := args_rv h (args := args) hxn hxr
      have hlt : ∀ (j : Nat) (v : Value) (av : AV), (args.map a.eval ++ xs)[j]? = some v → (args.toList.map (aEv st) ++ cs)[j]? = some av → RVx cx w st.tab L v av ∧ av.lt st.next := fun j v av h1 h2 => ⟨hargs.2 j v av h1 h2, by
        rcases List.mem_append.1 (List.mem_of_getElem? h2) with h3 | h3
        · obtain ⟨x, _, rfl⟩ := List.mem_map.1 h3
          exact (eval_ok h x).2
        · exact hcs av h3⟩
      rcases hp with hp | ⟨_, hp | ⟨ids, hp⟩⟩
      · refine (call_ok h hargs.1 hargs.2 hp dst).mono ?_
        rintro e w' ⟨v, av, st', L', rfl, h1, h2, hb, hold, hnew, hnx⟩
        exact ⟨_, _, h1, h2, (by rw [put_tab, put_next]; exact fr_merge (fun id o hid => (h.young id o hid).1) hb hold hnew hnx), put_defers _ _ _⟩
      rotate_left
      · obtain ⟨h3, h4⟩ := frzAVs_ok ids h hlt
        have hz := conc_frzs ids h
        refine (call_ok hz (by rw [h3]; exact hargs.1) (fun j v av h5 h6 => (h4 j v av h5 h6).1) hp dst).mono ?_
        rintro e w' ⟨v, av, st', L', rfl, h1, h2, hb, hold, hnew, hnx⟩
        exact ⟨_, _, h1, h2, (by rw [put_tab, put_next]; exact (fr_frzs ids).trans (fr_merge (fun id o hid => (hz.young id o hid).1) hb hold hnew hnx)), put_defers _ _ _⟩
      · refine (updM_ok h hargs.1 hlt hp dst).mono ?_
        rintro e w' ⟨v, av, st', L', rfl, h1, h2, h3⟩
        exact ⟨_, _, h1, h2, (by rw [put_tab, put_next]; exact h3), put_defers _ _ _⟩
    · exact pure_wpF h hp
  · exact pure_wpF h hp
end
end
section
open Go.RowKit

section
variable {P : Program} {cx : Cx} {a : Act} {w w' : World} {st : ASt} {L L' : Nat → Value} {l0 n : Nat}
def grow (T : Nat → Prop) (w w' : World) (b : Nat) : Prop := T b ∨ (w.heap.size ≤ b ∧ b < w'.heap.size)
theorem conc_move {c c' : Cx} (h : Conc c a w st L) (hw : c'.w0 = c.w0) (hblk : ∀ b, Sx c w st.tab L b → w'.heap[b]? = w.heap[b]?) (hown : ∀ id o g, st.tab.get id = some o → vblk (L id) = some g → w'.heap[g]? = w.heap[g]?) (hS : ∀ b, Sx c w st.tab L b → Sx c' w' st.tab L b)
    (hb : BelowX c'.X c'.w0.heap.size c'.w0 w') (hex : ∀ b, c'.X b → b < w'.heap.size ∧ ∀ id o, st.tab.get id = some o → vblk (L id) ≠ some b) : Conc c' a w' st L := by
  have hrv : ∀ {x av nx}, RVx c w st.tab L x av → av.lt nx → RVx c' w' st.tab L x av := fun hr hl => hr.mono hl (fun p hp => World.cell?_of_block (hblk _ hp)) hS (fun _ _ _ h => h)
  refine ⟨⟨hb, fun id o hid => ?_, h.lay.sep, hex⟩, h.size, by rw [hw]; exact h.defers.mono hblk hS, h.young, fun t => ⟨hrv (h.env t).1 (h.env t).2, (h.env t).2⟩⟩
  have ho := h.lay.objs id o hid
  have hy := (h.young id o hid).2
  cases o with
  | box t cells =>
    obtain ⟨g, cs, h1, h2, h3, h4, h5⟩ := ho
    exact ⟨g, cs, h1, by rw [hw]; exact h2, (hown id _ g hid (by rw [h1]; rfl)).trans h3, h4, fun j x av h6 h7 => ⟨hrv (h5 j x av h6 h7).1 (ltL_iff.1 hy _ (List.mem_of_getElem? h7)), (h5 j x av h6 h7).2⟩⟩
  | row e sz rows =>
    obtain ⟨h1, xs, hown', h2, h3⟩ := ho
    refine ⟨h1, xs, ⟨hown'.1, ?_⟩, h2, fun i j row av ha hb => ?_⟩
    · rcases hown'.2 with hn | ⟨g, cap, cur, h4, hb, hh, rest⟩
      · exact .inl hn
      · exact .inr ⟨g, cap, cur, h4, by rw [hw]; exact hb, (hown id _ g hid (by rw [h4]; rfl)).trans hh, rest⟩
    · obtain ⟨x, hx, hr⟩ := h3 i j row av ha hb
      exact ⟨x, hx, hr.mono (fun p hp => World.cell?_of_block (hblk _ hp)) hS⟩
  | map ents =>
    obtain ⟨b, es, ck, h1, h2, h3, h4⟩ := ho
    exact ⟨b, es, ck, h1, by rw [hw]; exact h2, (hown id _ b hid (by rw [h1]; rfl)).trans h3, h4⟩
  | ghost vs env => exact ⟨ho.1, fun t ht => hrv (ho.2 t ht) (envLt_aget hy t)⟩
def Cx.ex (c : Cx) (M : Nat → Prop) (hM : ∀ b, M b → c.w0.heap.size ≤ b) : Cx := ⟨c.F, c.w0, fun b => c.X b ∨ M b, c.amb, fun b h => h.elim (c.exD b) fun h2 => Nat.le_trans c.amb.le (hM b h2), c.inF⟩
def JAt (cx : Cx) (a0 : Act) (l : Nat) (r : Loop) (I : ASt → Prop) (T M : Nat → Prop) (W : World) : Prop :=
  ∃ (hqq : ∀ b, M b → cx.w0.heap.size ≤ b) (st : ASt) (L : Nat → Value), I st ∧ Conc (cx.ex M hqq) a0 W st L ∧ W.heap[l]? = some (.loop r) ∧ Sx (cx.ex M hqq) W st.tab L l ∧ ¬ T l ∧ (∀ b, M b → T b ∧ cx.w0.heap.size ≤ b) ∧ ∀ b, T b → Sx cx W st.tab L b
theorem sx_new (h : Conc cx a w st L) {b : Nat} (h1 : w.heap.size ≤ b) (h2 : b < w'.heap.size) : Sx cx w' st.tab L b :=
  ⟨h2, ⟨.inr (Nat.le_trans h.lay.below.size h1), fun hX => absurd (h.lay.ex b hX).1 (Nat.not_lt.2 h1)⟩, fun id o hid hg => absurd ((h.lay.objs id o hid).ge hg).2 (by omega)⟩
theorem JAt.step {a0 : Act} {l : Nat} {r : Loop} {I : ASt → Prop} {T M M' : Nat → Prop} (h : JAt cx a0 l r I T M w) (hb : BelowX M w.heap.size w w') (hM : ∀ b, M' b → M b ∨ (w.heap.size ≤ b ∧ b < w'.heap.size)) : JAt cx a0 l r I (grow T w w') M' w' := by
  obtain ⟨hqq, st, L, h1, h2, h3, h4, h5, h6, h7⟩ := h
  have hsz : cx.w0.heap.size ≤ w.heap.size := h2.lay.below.size
  have hq' : ∀ b, M' b → cx.w0.heap.size ≤ b := fun b hb2 => (hM b hb2).elim (hqq b) fun h8 => Nat.le_trans hsz h8.1
  have hS : ∀ b, Sx (cx.ex M hqq) w st.tab L b → Sx (cx.ex M' hq') w' st.tab L b := fun b hs => ⟨Nat.lt_of_lt_of_le hs.1 hb.size, ⟨hs.2.1.1, fun hx => by
    rcases hx with hx | hx
    · exact hs.2.1.2 (.inl hx)
    · rcases hM b hx with hm | hm
      · exact hs.2.1.2 (.inr hm)
      · have := hs.1
        omega⟩, hs.2.2⟩
  have hblk : ∀ b, Sx (cx.ex M hqq) w st.tab L b → w'.heap[b]? = w.heap[b]? := fun b hs => hb.block b hs.1 fun hm => hs.2.1.2 (.inr hm)
  have hex : ∀ b, (cx.ex M' hq').X b → b < w'.heap.size ∧ ∀ id o, st.tab.get id = some o → vblk (L id) ≠ some b := fun b hx => by
    have old : (cx.ex M hqq).X b → b < w'.heap.size ∧ ∀ id o, st.tab.get id = some o → vblk (L id) ≠ some b := fun hx => ⟨Nat.lt_of_lt_of_le (h2.lay.ex b hx).1 hb.size, (h2.lay.ex b hx).2⟩
    rcases hx with hx | hx
    · exact old (.inl hx)
    · rcases hM b hx with hm | hm
      · exact old (.inr hm)
      · exact ⟨hm.2, fun id o hid hg => absurd ((h2.lay.objs id o hid).ge hg).2 (by omega)⟩
  have hbel : BelowX (cx.ex M' hq').X (cx.ex M' hq').w0.heap.size (cx.ex M' hq').w0 w' := by
    have h8 : BelowX (cx.ex M hqq).X cx.w0.heap.size cx.w0 w := h2.lay.below
    refine ⟨hb.os.trans h8.os, hb.tape.trans h8.tape, hb.output.trans h8.output, Nat.le_trans h8.size hb.size, fun k (hk : k < cx.w0.heap.size) hx => ?_⟩
    have hm : ¬ M k := fun hm => by
      have := (h6 k hm).2
      omega
    refine (hb.block k (by omega) hm).trans (h8.block k hk fun hx' => ?_)
    rcases hx' with hx' | hx'
    · exact hx (.inl hx')
    · exact hm hx'
  refine ⟨hq', st, L, h1, conc_move h2 rfl hblk (fun id o g hid hg => hb.block g ((h2.lay.objs id o hid).ge hg).2 fun hm => (h2.lay.ex g (.inr hm)).2 id o hid hg) hS hbel hex, (hblk l h4).trans h3, hS l h4, fun hg => ?_, fun b hm => ?_, fun b hg => ?_⟩
  · rcases hg with hg | hg
    · exact h5 hg
    · have := h4.1
      omega
  · rcases hM b hm with hm | hm
    · exact ⟨.inl (h6 b hm).1, (h6 b hm).2⟩
    · exact ⟨.inr hm, by omega⟩
  · rcases hg with hg | hg
    · exact ⟨Nat.lt_of_lt_of_le (h7 b hg).1 hb.size, (h7 b hg).2.1, (h7 b hg).2.2⟩
    · have := sx_new h2 hg.1 hg.2
      exact ⟨this.1, ⟨this.2.1.1, fun hx => this.2.1.2 (.inl hx)⟩, this.2.2⟩
end
end
section
open Go.RowKit

abbrev IG := List (List AV) × Bool
section
variable {P : Program} {l : Nat} {xs : List (List AV)} {Q : Exit → IG → ASt → Prop} {g : IG} {st : ASt} {K : IG → ASt → Prop} {ops : Array Oper} {dst : Option Tmp} {op : Op} {ty : TypeId} {pos : String} {aft : Array Edge} {gd : Option (Nat × Bool)} {rest : List Oper}
end
structure IAmb (T0 : Nat → Prop) (W0 : World) (T : Nat → Prop) : Prop where
  amb : Amb W0
  tab0 : ∀ b, b < ambD → T0 b
  tab : ∀ b, b < ambD → T b
section
variable {P : Program} {l : Nat} {xs : List (List AV)} {T0 : Nat → Prop} {W0 : World} {J Jx : List (List AV) → (Nat → Prop) → (Nat → Prop) → World → Prop} {g : IG} {st st' : ASt} {a a' : Act} {W W' : World} {L L' : Nat → Value} {T M M' : Nat → Prop}
theorem IAmb.grow (hq : IAmb T0 W0 T) : IAmb T0 W0 (grow T W W') := ⟨hq.amb, hq.tab0, fun b hb => .inl (hq.tab b hb)⟩
end
end
section
open Go.RowKit

theorem weak_nilbox {st : ASt} (id j e sz : Nat) {t : TypeId} {cells : List AV} (hid : st.tab.get id = some (.box t cells)) (hj : cells[j]? = some (.c (.slice none 0 0))) :
    Weak st ⟨st.n, st.env, (id, some (.box t (cells.set j (.osl st.next)))) :: (st.next, some (.row e sz [])) :: st.tab, st.next + 1⟩ := by
  intro cx a w L h
  have hc1 := conc_new (ob := .row e sz []) (v := .slice none 0 0) (x := .slice none 0 0) (av := .any) h (Below.refl _ _) (fun g hg => by simp [vblk] at hg) (fun hext => ⟨by simp, [], ownsR_nil .., by simp, by simp⟩) trivial (fun hext => .tree (.any _)) trivial none
  have hlt := (h.young id _ hid).1
  have hget1 : ATab.get ((st.next, some (.row e sz [])) :: st.tab) id = some (.box t cells) := by rw [ATab.get_cons, if_neg (by omega)]; exact hid
  generalize hL1 : updL L st.next (.slice none 0 0) = L1 at hc1
  generalize ht1 : (st.next, some (AObj.row e sz [])) :: st.tab = tab1 at hc1 hget1 ⊢
  have hc1 : Conc cx a w ⟨st.n, st.env, tab1, st.next + 1⟩ L1 := hc1
  have hnew : ATab.get tab1 st.next = some (.row e sz []) := by rw [← ht1, ATab.get_cons, if_pos rfl]
  have hLn : L1 st.next = .slice none 0 0 := by rw [← hL1]; simp [updL]
  have hget : ∀ k o, ATab.get ((id, some (.box t (cells.set j (.osl st.next)))) :: tab1) k = some o → ∃ o', ATab.get tab1 k = some o' ∧ o.sz = o'.sz := fun k o hk => by
    rw [ATab.get_cons] at hk
    split at hk
    · rename_i e1
      cases hk
      exact ⟨_, by rw [e1]; exact hget1, by simp [AObj.sz]⟩
    · exact ⟨o, hk, rfl⟩
  have hS1 : ∀ b, Sx cx w tab1 L1 b → Sx cx w ((id, some (.box t (cells.set j (.osl st.next)))) :: tab1) L1 b := fun b hb => ⟨hb.1, hb.2.1, fun k o hk => by
    obtain ⟨o', h1, _⟩ := hget k o hk
    exact hb.2.2 k o' h1⟩
  have hK : ∀ k p, Kx ((id, some (.box t (cells.set j (.osl st.next)))) :: tab1) L1 k = some p → Kx tab1 L1 k = some p := fun k p hk => by
    unfold Kx at *
    cases ho : ATab.get ((id, some (.box t (cells.set j (.osl st.next)))) :: tab1) k with
    | none => simp [ho] at hk
    | some o =>
      obtain ⟨o', h1, h2⟩ := hget k o ho
      rw [h1]
      simpa [ho, h2] using hk
  have hrv : ∀ {x av}, RVx cx w tab1 L1 x av → av.lt (st.next + 1) → RVx cx w ((id, some (.box t (cells.set j (.osl st.next)))) :: tab1) L1 x av := fun hr hl => hr.mono hl (fun _ _ => rfl) hS1 fun k p _ hk => hK k p hk
  refine ⟨L1, ⟨⟨hc1.lay.below, fun k o hk => ?_, fun k k' o o' g h1 h2 => ?_, fun b hb => ⟨(hc1.lay.ex b hb).1, fun k o hk => by
    obtain ⟨o', h1, _⟩ := hget k o hk
    exact (hc1.lay.ex b hb).2 k o' h1⟩⟩, hc1.size, hc1.defers.mono (fun _ _ => rfl) hS1, fun k o hk => ?_, fun t => ⟨hrv (hc1.env t).1 (hc1.env t).2, (hc1.env t).2⟩⟩, fun b hb => hS1 b ?_⟩
  · rw [ATab.get_cons] at hk
    split at hk
    · rename_i e1
      cases hk
      subst e1
      obtain ⟨g, cs, h1, h2, h3, h4, h5⟩ := hc1.lay.objs _ _ hget1
      refine ⟨g, cs, h1, h2, h3, by simpa using h4, fun i x av h6 h7 => ?_⟩
      rw [List.getElem?_set] at h7
      split at h7
      · rename_i e2
        subst e2
        split at h7
        · cases h7
          have h8 := h5 j x _ h6 hj
          refine ⟨.osl x _ fun sz' v hk => ?_, h8.2⟩
          have hk := hK _ _ hk
          unfold Kx at hk
          rw [hnew] at hk
          simp at hk
          rw [h8.1.c_inv, ← hk.2, hLn]
        · cases h7
      · have h8 := h5 i x av h6 h7
        exact ⟨hrv h8.1 (ltL_iff.1 (hc1.young _ _ hget1).2 _ (List.mem_of_getElem? h7)), h8.2⟩
    · have ho := hc1.lay.objs k o hk
      have hy := (hc1.young k o hk).2
      cases o with
      | box t' cells' =>
        obtain ⟨g, cs, h1, h2, h3, h4, h5⟩ := ho
        exact ⟨g, cs, h1, h2, h3, h4, fun i x av h6 h7 => ⟨hrv (h5 i x av h6 h7).1 (ltL_iff.1 hy _ (List.mem_of_getElem? h7)), (h5 i x av h6 h7).2⟩⟩
      | row e' sz' rows' =>
        obtain ⟨h1, xs, h2, h3, h4⟩ := ho
        refine ⟨h1, xs, h2, h3, fun i j row av h5 h6 => ?_⟩
        obtain ⟨x, hx, hr⟩ := h4 i j row av h5 h6
        exact ⟨x, hx, hr.mono (fun _ _ => rfl) hS1⟩
      | map ents => exact ho
      | ghost vs env => exact ⟨ho.1, fun t ht => hrv (ho.2 t ht) (envLt_aget hy t)⟩
  · obtain ⟨o1, h3, _⟩ := hget k o h1
    obtain ⟨o2, h4, _⟩ := hget k' o' h2
    exact hc1.lay.sep k k' o1 o2 g h3 h4
  · rw [ATab.get_cons] at hk
    split at hk
    · rename_i e1
      cases hk
      have hy := hc1.young id _ hget1
      refine ⟨by rw [e1]; exact hy.1, ltL_iff.2 fun x hx => ?_⟩
      rcases List.mem_or_eq_of_mem_set hx with hx | rfl
      · exact ltL_iff.1 hy.2 x hx
      · exact Nat.lt_succ_self _
    · exact hc1.young k o hk
  · refine ⟨hb.1, hb.2.1, fun k o hk hg => ?_⟩
    rw [← ht1, ATab.get_cons] at hk
    rw [← hL1] at hg
    unfold updL at hg
    split at hk
    · rename_i e1
      rw [if_pos e1] at hg
      simp [vblk] at hg
    · rename_i e1
      rw [if_neg e1] at hg
      exact hb.2.2 k o hk hg
end
section
open Go.RowKit
theorem weak_frz (st : ASt) (id : Nat) : Weak st (frz1 st id) := fun cx a w L h => ⟨L, (conc_frz1 h id).1, fun b hb => ⟨hb.1, hb.2.1, fun k o hk => by
  unfold frz1 at hk
  split at hk
  · simp only [ATab.get_cons, frzTab_get] at hk
    split at hk
    · cases hk
    · cases hg : st.tab.get k with
      | none => simp [hg] at hk
      | some o' => exact hb.2.2 k o' hg
  · exact hb.2.2 k o hk⟩⟩
end
section
open Go.RowKit

structure Fz (w : World) (tab : ATab) (L : Nat → Value) (w' : World) (tab' : ATab) (L' : Nat → Value) : Prop where
  size : w.heap.size ≤ w'.heap.size
  keep : ∀ k, k < w.heap.size → (∀ id o, tab.get id = some o → vblk (L id) ≠ some k) → w'.heap[k]? = w.heap[k]?
  young : ∀ id o g, tab'.get id = some o → vblk (L' id) = some g → g < w.heap.size → ∃ id2 o2, tab.get id2 = some o2 ∧ vblk (L id2) = some g
section
variable {P : Program} {cx : Cx} {a : Act} {w w' w'' : World} {st st' : ASt} {tab tab' tab'' : ATab} {L L' L'' : Nat → Value} {nx nx' : Nat}
theorem Fz.refl : Fz w tab L w tab L := ⟨Nat.le_refl _, fun _ _ _ => rfl, fun id o g h1 h2 _ => ⟨id, o, h1, h2⟩⟩
theorem Fz.trans (h : Fz w tab L w' tab' L') (k : Fz w' tab' L' w'' tab'' L'') : Fz w tab L w'' tab'' L'' :=
  ⟨Nat.le_trans h.size k.size,
   fun j hj hn => (k.keep j (Nat.lt_of_lt_of_le hj h.size) fun id o h1 h2 => (h.young id o j h1 h2 hj).elim fun id2 ⟨o2, h3, h4⟩ => hn id2 o2 h3 h4).trans (h.keep j hj hn),
   fun id o g h1 h2 hg => (k.young id o g h1 h2 (Nat.lt_of_lt_of_le hg h.size)).elim fun id2 ⟨o2, h3, h4⟩ => h.young id2 o2 g h3 h4 hg⟩
theorem Fr.fz (h : Fr cx w tab L nx w' tab' L' nx') : Fz w tab L w' tab' L' := ⟨h.size, h.keep, h.young⟩
theorem weak_fz (hw : Weak st st') (h : Conc cx a w st L) : ∃ L', Conc cx a w st' L' ∧ Fz w st.tab L w st'.tab L' := by
  obtain ⟨L', h1, h2⟩ := hw _ _ _ _ h
  refine ⟨L', h1, Nat.le_refl _, fun _ _ _ => rfl, fun id o g h3 h4 h5 => ?_⟩
  refine Classical.byContradiction fun hno => ?_
  have hS : Sx cx w st.tab L g := ⟨h5, ⟨.inr ((h1.lay.objs id o h3).ge h4).1, fun hX => (h1.lay.ex g hX).2 id o h3 h4⟩, fun id2 o2 h6 h7 => hno ⟨id2, o2, h6, h7⟩⟩
  exact (h2 g hS).2.2 id o h3 h4
theorem ops_okZ {ops : Array Oper} {K : ASt → Prop} {Q : Exit → Act → World → Prop} {T : Nat → Prop} : ∀ (l : List Oper) (a : Act) (w : World) (st : ASt) (L : Nat → Value), (∀ o ∈ l, fOp o = true ∧ ∀ t, T t → o.dst ≠ some t) →
    (∀ a' w' st' L', K st' → Conc cx a' w' st' L' → Fz w st.tab L w' st'.tab L' → ActSame T a a' → Q .normal a' w') → Conc cx a w st L → aOps P ops K l st → wpList P ops Q l a w
  | [], a, w, st, L, _, hQ, h, hp => hQ a w st L hp h Fz.refl (.refl a)
  | o :: rest, a, w, st, L, hf, hQ, h, hp => by
    unfold aOps at hp
    obtain ⟨hfo, hdo⟩ := hf o (List.mem_cons_self ..)
    have hrest := fun o' (ho' : o' ∈ rest) => hf o' (List.mem_cons_of_mem _ ho')
    refine wpList_step fun K' hK' => ?_
    rcases guard_ok h hp o rfl with ⟨hw, st1, h1, h2, e1, e2⟩ | ⟨hw, st1, h1, h2, e1, e2⟩
    · rw [if_pos hw]
      refine Oper.wp_mono (fun a' w' ⟨⟨st2, L2, h3, h4, h5, h6⟩, h7⟩ => hK' a' w' (ops_okZ rest a' w' st2 L2 hrest (fun a3 w3 st3 L3 h8 h9 h10 h11 => hQ a3 w3 st3 L3 h8 h9 ?_ (ActSame.trans ⟨h6, h7⟩ h11)) h4 h3)) (wp_slots hdo (op_okF h2 h1 hfo))
      have h5 := h5.fz
      rw [e1] at h5
      exact h5.trans h10
    · rw [if_neg (by simp [hw])]
      refine hK' _ _ (ops_okZ rest _ w _ L hrest (fun a3 w3 st3 L3 h8 h9 h10 h11 => hQ a3 w3 st3 L3 h8 h9 ?_ (((ActSame.refl a).put hdo).trans h11)) (skip_conc h2 o.dst) h1)
      rw [put_tab, e1] at h10
      exact h10
theorem Fz.below (hy : ∀ id o g, tab.get id = some o → vblk (L id) = some g → g < w.heap.size) (hb : Below w.heap.size w w') : Fz w tab L w' tab L := ⟨hb.size, fun k hk _ => hb.block k hk, fun id o g h1 h2 _ => ⟨id, o, h1, h2⟩⟩
def zCode (t : Nat) : Code → Bool
  | .skip => true
  | .region _ ops _ => ops.toList.all fun o => fOp o && !(o.dst == some t)
  | .seq x y => zCode t x && zCode t y
  | .cond _ x y => zCode t x && zCode t y
  | .block _ x => zCode t x
  | .loop x => zCode t x
  | .exit _ => true
  | .ret => true
  | .label _ => true
  | .scope x => zCode t x
  | _ => false
abbrev AfterZ (cx : Cx) (a : Act) (w : World) (tab : ATab) (L : Nat → Value) (t : Nat) (Q : Exit → ASt → Prop) : Exit → Act → World → Prop := fun e a' w' => ∃ st' L', Q e st' ∧ Conc cx a' w' st' L' ∧ Fz w tab L w' st'.tab L' ∧ ActSame (fun k => k = t) a a'
theorem code_okZ (hm : P.follows .mixedOrders = true) (t : Nat) : ∀ (c : Code), zCode t c = true → ∀ (Q : Exit → ASt → Prop) (a : Act) (w : World) (st : ASt) (L : Nat → Value), Conc cx a w st L → aCode P c Q st → c.wp P (AfterZ cx a w st.tab L t Q) a w := by
  intro c
  induction c with
  | skip => exact fun _ Q a w st L h hp => wp_skip ⟨st, L, hp, h, Fz.refl, .refl a⟩
  | region id ops draw =>
    intro hf Q a w st L h hp
    unfold aCode aReg at hp
    simp only [zCode, List.all_eq_true, Bool.and_eq_true] at hf
    have hf : ∀ o ∈ ops.toList, fOp o = true ∧ ∀ k, k = t → o.dst ≠ some k := fun o ho => ⟨(hf o ho).1, fun k hk => by subst hk; simpa using (hf o ho).2⟩
    have hT : ∀ (i : Nat) (o : Oper), ops[i]? = some o → ∀ k, k = t → o.dst ≠ some k := fun i o ho => (hf o (Array.mem_toList_iff.2 (Array.mem_of_getElem? ho))).2
    have hyg : ∀ id o g, st.tab.get id = some o → vblk (L id) = some g → g < w.heap.size := fun id o g h1 h2 => ((h.lay.objs id o h1).ge h2).2
    cases draw with
    | false => exact wp_region_list (ops_okZ (T := fun k => k = t) _ a w st L hf (fun a' w' st' L' h1 h2 h3 h4 => ⟨st', L', h1, h2, h3, h4⟩) h (by simpa using hp))
    | true =>
      simp only [if_true] at hp
      obtain ⟨l⟩ := ops
      rcases hp with ⟨hB, hp⟩ | ⟨n, hB, hp⟩ | ⟨ids, hd, s, hB, K', hK', hids, hp⟩
      · exact wp_region_quiet (C := fun w' => Below w.heap.size w w') hm hB ((Below.refl _ _).drew) (dops_ok (L := L) (T := fun k => k = t) (a0 := a) (tab0 := st.tab) (fun a' st' h1 h2 h3 h4 w' hw' => ⟨st', L, h1, conc_below h2 hw', by rw [h3]; exact Fz.below hyg hw', h4⟩) _ _ _ (fun o ho => (hf o ho).2) rfl (.refl a) h hp)
      · have h' : Conc cx a w.drew st L := conc_below h ((Below.refl _ _).drew)
        have hz : Fz w st.tab L w.drew st.tab L := Fz.below hyg ((Below.refl _ _).drew)
        exact wp_region_still_tail n hm hB (pops_ok (T := fun k => k = t) (a0 := a) (tab0 := st.tab) (fun a' st' h1 h2 h3 h4 => ops_okZ (T := fun k => k = t) _ a' w.drew st' L (fun o ho => hf o (List.mem_of_mem_drop ho)) (fun a2 w2 st2 L2 h5 h6 h7 h8 => ⟨st2, L2, h5, h6, hz.trans (by rw [← h3]; exact h7), h4.trans h8⟩) h2 h1) _ _ _ (fun o ho => (hf o (List.mem_of_mem_take ho)).2) rfl (.refl a) h' hp)
      · simp only [Bool.and_eq_true] at hB
        have hB := And.intro hB.1 (Nat.le_of_ble_eq_true hB.2)
        have h' : Conc cx a w.drew st L := conc_below h ((Below.refl _ _).drew)
        let G : Nat → Prop := fun k => ∃ id ∈ ids, vblk (L id) = some k
        refine Code.wp_mono (Q := noPanic (AfterZ cx a w st.tab L t Q)) (fun e a w hq => ?_) (wp_region_held (S := fun w' => KeepX w.drew.heap.size G w.drew w') hm ?_)
        · cases e <;> first | exact hq | exact hq.elim
        · refine heldH_ok (T := st.tab) (Tz := fun k => k = t) (a0 := a) (nx := st.next) (ids := ids) hB.1.1 hT s ⟨Nat.le_refl _, fun _ _ _ => rfl⟩ (fun w' b hw' hb o u hu => ?_) (fun listed a' st' hA hT' hN hB' hK h2 fuel hf' => ?_) hd _ _ _ (.refl a) h' rfl rfl hB.1.2 hp _ hB.2
          · have hlt := World.block_lt_of_cell? w.drew _ hu
            refine (World.cell?_of_block (hw'.block b hlt fun ⟨id, hid, hbl⟩ => ?_)).trans hu
            obtain ⟨ob, hob⟩ := Option.isSome_iff_exists.1 (hids id hid)
            rcases hb with hb | ⟨id', o', hni, hget, hbl'⟩
            · exact hb.2.2 id ob hob hbl
            · exact hni (h.lay.sep id' id o' ob b hget hob hbl' hbl ▸ hid)
          · refine held_ok (Q := AfterZ cx a w st.tab L t Q) (T0 := st.tab) (T := fun k => k = t) (a0 := a) (L0 := L) hB.1.1 hT (fun a2 w2 st2 L2 h3 h4 h5 h6 h7 h8 => ?_) s listed a' w.drew st' L h2 ⟨Nat.le_refl _, fun _ _ _ => rfl⟩ (fun id o g h3 h4 _ => by
              rw [hT'] at h4
              have := (h.young id o h4).1
              omega) (fun id hid g hg => ⟨id, hid, hg⟩) (fun id hid => by
              obtain ⟨ob, hob⟩ := Option.isSome_iff_exists.1 (hids id hid)
              rw [hN]
              exact (h.young id ob hob).1) ⟨fun _ _ => rfl, by rw [hN]; exact Nat.le_refl _, fun id o _ hg => ⟨o, by rw [← hT']; exact hg⟩, fun id o g _ hni hg hbl => ?_⟩ hA hB' hK fuel hf'
            · obtain ⟨st3, hw3, h9⟩ := hK' st2 h3
              obtain ⟨L3, h10, h11⟩ := weak_fz hw3 h4
              have hG : ∀ k, G k → ∃ id o, st.tab.get id = some o ∧ vblk (L id) = some k := fun k ⟨id, hid, hbl⟩ => (Option.isSome_iff_exists.1 (hids id hid)).elim fun ob hob => ⟨id, ob, hob, hbl⟩
              have hz : Fz w st.tab L w2 st2.tab L2 := by
                have hsz : w.drew.heap.size = w.heap.size := rfl
                refine ⟨h5.size, fun k hk hn => h5.block k hk fun hg => ?_, fun id o g h12 h13 h14 => ?_⟩
                · obtain ⟨id, ob, h12, h13⟩ := hG k hg
                  exact hn id ob h12 h13
                · rcases Nat.lt_or_ge id st.next with hlt | hge
                  · obtain ⟨o', ho'⟩ := h7.old id o hlt h12
                    exact ⟨id, o', ho', by rw [← h7.loc id hlt]; exact h13⟩
                  · rcases h6 id o g hge h12 h13 with h15 | h15
                    · have : w.heap.size ≤ g := h15
                      omega
                    · exact hG g h15
              exact ⟨st3, L3, h9, h10, hz.trans h11, h8⟩
            · refine ⟨((h'.lay.objs id _ hg).ge hbl).2, fun ⟨id', hid', hbl'⟩ => hni ?_⟩
              obtain ⟨ob, hob⟩ := Option.isSome_iff_exists.1 (hids id' hid')
              exact h.lay.sep id id' _ ob g hg hob hbl hbl' ▸ hid'
  | seq x y ihx ihy =>
    intro hf Q a w st L h hp
    simp only [zCode, Bool.and_eq_true] at hf
    unfold aCode at hp
    refine wp_seq (Code.wp_mono (fun e a' w' ⟨st', L', h1, h2, h3, h4⟩ => ?_) (ihx hf.1 _ a w st L h hp))
    cases e with
    | normal => exact Code.wp_mono (fun e a2 w2 ⟨st2, L2, k1, k2, k3, k4⟩ => ⟨st2, L2, k1, k2, h3.trans k3, h4.trans k4⟩) (ihy hf.2 Q a' w' st' L' h2 h1)
    | _ => exact ⟨st', L', h1, h2, h3, h4⟩
  | cond c x y ihx ihy =>
    intro hf Q a w st L h hp
    simp only [zCode, Bool.and_eq_true] at hf
    unfold aCode aCond at hp
    split at hp
    · rename_i b hb
      have hv := (eval_ok h c).1
      rw [hb] at hv
      have hv := hv.c_inv
      cases b
      · exact wp_cond_false hv (ihy hf.2 Q a w st L h hp)
      · exact wp_cond_true hv (ihx hf.1 Q a w st L h hp)
    · exact hp.elim
  | block id x ih =>
    intro hf Q a w st L h hp
    simp only [zCode] at hf
    unfold aCode at hp
    refine wp_block (Code.wp_mono (fun e a' w' ⟨st', L', h1, h2, h3⟩ => ?_) (ih hf _ a w st L h hp))
    cases e with
    | exit id' =>
      simp only [aInBlock, Exit.inBlock] at h1 ⊢
      split
      · rename_i e
        rw [if_pos e] at h1
        exact ⟨st', L', h1, h2, h3⟩
      · rename_i e
        rw [if_neg e] at h1
        exact ⟨st', L', h1, h2, h3⟩
    | _ => exact ⟨st', L', h1, h2, h3⟩
  | loop x ih =>
    intro hf Q a0 w0 st0 L0 h hp
    simp only [zCode] at hf
    unfold aCode at hp
    obtain ⟨I, μ, ⟨st1, hw1, hI⟩, hr⟩ := hp
    let p : Act → World → Nat → Prop := fun a w n => ∃ st L, I st ∧ Conc cx a w st L ∧ (Fz w0 st0.tab L0 w st.tab L ∧ ActSame (fun k => k = t) a0 a) ∧ μ st = n
    obtain ⟨L1, hL1, hz1⟩ := weak_fz hw1 h
    refine wp_loop (fun a w => ∃ n, p a w n) (fun a w => least (p a w)) ⟨_, st1, L1, hI, hL1, ⟨hz1, .refl a0⟩, rfl⟩ fun a w hpa => ?_
    obtain ⟨⟨st, L, h1, h2, ⟨h3, h3a⟩, h4⟩, _⟩ := least_spec hpa
    refine Code.wp_mono (fun e a' w' ⟨st', L', h5, h6, h7, h8⟩ => ?_) (ih hf _ a w st L h2 (hr st h1))
    cases e with
    | normal =>
      obtain ⟨st'', hw, hI'', hlt⟩ := h5
      obtain ⟨L1, hL1, hz1⟩ := weak_fz hw h6
      have hpn : p a' w' (μ st'') := ⟨st'', L1, hI'', hL1, ⟨(h3.trans h7).trans hz1, h3a.trans h8⟩, rfl⟩
      refine ⟨⟨_, hpn⟩, ?_⟩
      have := (least_spec ⟨_, hpn⟩).2 _ hpn
      show least (p a' w') < least (p a w)
      omega
    | _ => exact ⟨st', L', h5, h6, h3.trans h7, h3a.trans h8⟩
  | exit id => exact fun _ Q a w st L h hp => wp_exit ⟨st, L, hp, h, Fz.refl, .refl a⟩
  | ret => exact fun _ Q a w st L h hp => wp_ret ⟨st, L, hp, h, Fz.refl, .refl a⟩
  | label l => exact fun _ Q a w st L h hp => wp_label ⟨st, L, hp, h, Fz.refl, .refl a⟩
  | scope x ih =>
    intro hf Q a w st L h hp
    simp only [zCode] at hf
    unfold aCode at hp
    refine wp_scope_straight (Code.wp_mono (fun e a' w' ⟨st', L', h1, h2⟩ => ?_) (ih hf _ a w st L h hp))
    cases e with
    | goto l => exact h1
    | _ => exact ⟨st', L', h1, h2⟩
  | _ => exact fun hf => (by cases hf)
end
def aRetM (e : TypeId) (sz : Nat) (rows : List (List AV)) : Exit → ASt → Prop
  | .normal, st => st.tab.get 0 = some (.row e sz rows) ∧ st.get 0 = .osl 0
  | .ret, st => st.tab.get 0 = some (.row e sz rows) ∧ st.get 0 = .osl 0
  | _, _ => False
theorem aRetM_n {e : TypeId} {sz : Nat} {rows : List (List AV)} {st : ASt} : aRetM e sz rows .normal st = (st.tab.get 0 = some (.row e sz rows) ∧ st.get 0 = .osl 0) := rfl
theorem aRetM_r {e : TypeId} {sz : Nat} {rows : List (List AV)} {st : ASt} : aRetM e sz rows .ret st = (st.tab.get 0 = some (.row e sz rows) ∧ st.get 0 = .osl 0) := rfl
theorem amut_of_code {P : Program} (hm : P.follows .mixedOrders = true) {f : FuncId} {fn : Func} {c : Code} (hf : P.funcs[f]? = some fn) (hb : fn.body = some c) (hname : (fn.name == "runtime.NumGoroutine") = false) {e : TypeId} {sz : Nat} {rows rows' : List (List AV)} {args : List AV} {n : Nat} (hnt : fn.ntmps = n) (hrs : fn.results = #[])
    (hn : Nat.ble (args.length + 1) n = true) (hz : zCode 0 c = true) (h : aCode P c (aRetM e sz rows') ⟨n, envOf 0 (.osl 0 :: args), [(0, some (.row e sz rows))], 1⟩) : AMut P f e sz rows args rows' := by
  have hn := Nat.le_of_ble_eq_true hn
  subst hnt
  refine ⟨fun vs w => ?_, fun S w base v vs hS hbD hrow hvS hvn hvs => ?_⟩
  · have : ¬ fn.name = "runtime.NumGoroutine" := by simpa using hname
    simp [callFunc, Sem.run_bind, hf, this, hb]
  · have hw0 : ({ w with heap := w.heap.extract 0 ambD } : World).heap.size = ambD := by
      have := hS.amb.le
      simp
      omega
    have hk0 : ∀ k, k < ambD → ({ w with heap := w.heap.extract 0 ambD } : World).heap[k]? = w.heap[k]? := fun k hk => by
      have := hS.amb.le
      show (w.heap.extract 0 ambD)[k]? = _
      rw [Array.getElem?_extract]
      rw [if_pos (by omega), Nat.zero_add]
    let cx : Cx := ⟨fun _ => True, { w with heap := w.heap.extract 0 ambD }, fun b => ambD ≤ b ∧ b < w.heap.size ∧ ¬ S b ∧ vblk v ≠ some b, hS.amb.keep (Nat.le_of_eq hw0.symm) hk0, fun b h => h.1, fun _ _ => trivial⟩
    have hget : ∀ id o, ATab.get [(0, some (AObj.row e sz rows))] id = some o → id = 0 ∧ o = .row e sz rows := fun id o ho => by
      rw [ATab.get_cons] at ho
      split at ho
      · cases ho
        exact ⟨by assumption, rfl⟩
      · cases ho
    have hSx : ∀ b, S b → Sx cx w [(0, some (AObj.row e sz rows))] (fun _ => v) b := fun b hb => ⟨hS b hb, ⟨.inl trivial, fun hX => hX.2.2.1 hb⟩, fun id o ho hg => hvS b hg hb⟩
    obtain ⟨hrl, xs, hown, hone, hx⟩ := id hrow
    have hL : Lay cx w [(0, some (AObj.row e sz rows))] (fun _ => v) := by
      refine ⟨⟨rfl, rfl, rfl, Nat.le_trans (Nat.le_of_eq hw0) hS.amb.le, fun k hk _ => (hk0 k (Nat.lt_of_lt_of_le hk (Nat.le_of_eq hw0))).symm⟩, fun id o ho => ?_, fun id id' o o' g h1 h2 _ _ => by rw [(hget id o h1).1, (hget id' o' h2).1], fun b hX => ⟨hX.2.1, fun id o _ => hX.2.2.2⟩⟩
      obtain ⟨_, rfl⟩ := hget id o ho
      exact ⟨hrl, xs, hown.base (Nat.le_trans (Nat.le_of_eq hw0) hbD), hone, fun i j row av h1 h2 => (hx i j row av h1 h2).elim fun x hx' => ⟨x, hx'.1, hx'.2.mono (fun _ _ => rfl) hSx⟩⟩
    have hC : Conc cx { tmps := (#[v] ++ vs) ++ Array.replicate (fn.ntmps - (#[v] ++ vs).size) undef, defers := [] } w ⟨fn.ntmps, envOf 0 (.osl 0 :: args), [(0, some (.row e sz rows))], 1⟩ (fun _ => v) := by
      refine ⟨hL, ?_, Marks.nil _ _ _, fun id o ho => ?_, fun t => ?_⟩
      · simp
        omega
      · obtain ⟨rfl, rfl⟩ := hget id o ho
        exact ⟨Nat.zero_lt_one, trivial⟩
      have e1 : (⟨fn.ntmps, envOf 0 (.osl 0 :: args), [(0, some (.row e sz rows))], 1⟩ : ASt).get t = (AV.osl 0 :: args).getD t .any := by
        show (if t < fn.ntmps then aget (envOf 0 (.osl 0 :: args)) t else .any) = _
        rw [aget_envOf]
        split
        · simp
        · simp [List.getD, List.getElem?_eq_none (show (AV.osl 0 :: args).length ≤ t by simp; omega)]
      rw [e1]
      by_cases ht : t < args.length + 1
      · have ht' : t < (#[v] ++ vs).size := by simp; omega
        have e2 : ((#[v] ++ vs) ++ Array.replicate (fn.ntmps - (#[v] ++ vs).size) undef).getD t undef = (#[v] ++ vs)[t] := by
          rw [Array.getD_eq_getD_getElem?, Array.getElem?_append_left ht', Array.getElem?_eq_getElem ht']
          rfl
        rw [e2]
        cases t with
        | zero =>
          have e3 : (#[v] ++ vs)[0] = v := by simp
          rw [e3]
          refine ⟨.osl _ _ fun sz' v' hk => ?_, Nat.zero_lt_one⟩
          simp [Kx, ATab.get_cons] at hk
          exact hk.2
        | succ t =>
          have ht2 : t < args.length := by omega
          have ht3 : t < vs.size := by omega
          have e3 : (#[v] ++ vs)[t + 1] = vs[t] := by simp []
          have e4 : (AV.osl 0 :: args).getD (t + 1) .any = args[t] := by simp [List.getD, ht2]
          rw [e3, e4]
          have := hvs t _ _ (Array.getElem?_eq_getElem ht3) (List.getElem?_eq_getElem ht2)
          exact ⟨.tree (this.mono (fun _ _ => rfl) hSx), this.lt 1⟩
      · have e3 : (AV.osl 0 :: args).getD t .any = .any := by simp [List.getD, List.getElem?_eq_none (show (AV.osl 0 :: args).length ≤ t by simp; omega)]
        rw [e3]
        exact ⟨.tree (.any _), trivial⟩
    refine calls_of_wp hf hb (Code.wp_mono (fun ex a' w' ⟨st', L', h1, h2, h3, hA⟩ => ?_) (code_okZ hm 0 c hz _ _ w _ _ hC h))
    have h4 := hA.defers
    have h5 := hA.slots 0 rfl
    have h50 : a'.tmps.getD 0 undef = v := by
      rw [h5, Array.getD_eq_getD_getElem?, Array.append_assoc, Array.getElem?_append_left (by simp)]
      rfl
    have key : (st'.tab.get 0 = some (.row e sz rows') ∧ st'.get 0 = .osl 0) → a'.defers = [] ∧ ∃ u, (results fn a'.tmps).run P w' = .ok u w' ∧ (Ending.returned u = .returned (.tuple #[]) ∧ (w'.os = w.os ∧ w'.tape = w.tape ∧ w'.output = w.output) ∧ w.heap.size ≤ w'.heap.size ∧ (∀ k, k < w.heap.size → vblk v ≠ some k → w'.heap[k]? = w.heap[k]?) ∧ RowAt w' (fun b => (S b ∨ w.heap.size ≤ b) ∧ b < w'.heap.size) base e sz v rows') := fun ⟨h6, h7⟩ => by
      have hL0 : L' 0 = v := by
        have := (h2.env 0).1
        rw [h7, h50] at this
        exact (this.osl_inv _ _ (kx_of h6)).symm
      obtain ⟨hrl', xs', hown', hone', hx'⟩ := h2.lay.objs 0 _ h6
      rw [hL0] at hown'
      refine ⟨h4, .tuple #[], ?_, rfl, ⟨h2.lay.below.os, h2.lay.below.tape, h2.lay.below.output⟩, h3.size, fun k hk hne => h3.keep k hk fun id o ho => ?_, hrl', xs', ⟨hown'.1, ?_⟩, hone', fun i j row av h8 h9 => (hx' i j row av h8 h9).elim fun x hx2 => ⟨x, hx2.1, hx2.2.mono (fun _ _ => rfl) fun b hb => ⟨?_, hb.1⟩⟩⟩
      · obtain ⟨u, av, hav, hu, hr⟩ := res_ok (K := fun av => av = .tup []) (fn := fn) h2 (by rw [hrs]; rfl)
        subst hav
        obtain ⟨xs, rfl, hsz, _⟩ := hu.tup_inv
        have : xs = #[] := Array.eq_empty_of_size_eq_zero (by simpa using hsz)
        rw [this] at hr
        exact hr
      · exact hne
      · rcases hown'.2 with h8 | ⟨g, cap, cur, h8, _, h9⟩
        · exact .inl h8
        · refine .inr ⟨g, cap, cur, h8, ?_, h9⟩
          exact (hown.lt g (by rw [h8]; rfl)).1
      · rcases Nat.lt_or_ge b w.heap.size with hlt | hge
        · refine .inl (Classical.byContradiction fun hno => hb.2.1.2 ⟨Nat.le_of_not_lt fun hb2 => hno (hS.tab b hb2), hlt, hno, fun hg => ?_⟩)
          exact hb.2.2 0 _ h6 (by rw [hL0]; exact hg)
        · exact .inr hge
    cases ex with
    | normal => exact key h1
    | ret => exact key h1
    | _ => exact h1.elim
theorem callM {P : Program} {st : ASt} {g : FuncId} {K : AV → ASt → Prop} {id e sz : Nat} {rows rows' : List (List AV)} {rest : List AV} (h : AMut P g e sz rows rest rows') (hid : st.tab.get id = some (.row e sz rows)) (ht : treeML rest) (hk : K (.tup []) { st with tab := (id, some (.row e sz rows')) :: st.tab }) : aCall true P st g (.osl id :: rest) K :=
  .inr ⟨rfl, .inl (.inr (.inl ⟨id, e, sz, rows, rows', rest, rfl, hid, ht, h, hk⟩))⟩
end
section
structure Pt where
  n : Int
  a : Int
  c : Int
  t : Int
instance : Inhabited Pt := ⟨⟨0, 0, 0, 0⟩⟩
def ltE (x y : Pt) : Prop := x.n < y.n ∨ (x.n = y.n ∧ x.t < y.t)
def leB (x y : Pt) : Bool := decide (x.n < y.n) || (decide (x.n = y.n) && decide (x.t ≤ y.t))
def srt (l : List Pt) : List Pt := l.mergeSort leB
def Srt (l : List Pt) : Prop := l.Pairwise ltE
def Tg (l : List Pt) : Prop := l.Pairwise fun x y => x.t < y.t
theorem leB_iff {x y : Pt} : leB x y = true ↔ x.n < y.n ∨ (x.n = y.n ∧ x.t ≤ y.t) := by simp [leB]
theorem srt_perm (l : List Pt) : (srt l).Perm l := List.mergeSort_perm ..
theorem srt_len (l : List Pt) : (srt l).length = l.length := (srt_perm l).length_eq
theorem srt_le (l : List Pt) : (srt l).Pairwise fun x y => leB x y = true :=
  List.pairwise_mergeSort (fun x y z h k => by rw [leB_iff] at *; omega) (fun x y => by rw [Bool.or_eq_true, leB_iff, leB_iff]; omega) l
theorem srt_uniq {X l : List Pt} (h : X.Perm l) (hs : Srt X) : srt l = X := by
  refine (h.trans (srt_perm l).symm).symm.eq_of_pairwise (le := fun x y => leB x y = true) (fun x y hx hy h1 h2 => ?_) (srt_le l) (hs.imp fun {x y} h => by rw [leB_iff]; unfold ltE at h; omega)
  have hx' : x ∈ X := (h.trans (srt_perm l).symm).symm.subset hx
  rw [leB_iff] at h1 h2
  refine Classical.byContradiction fun hne => ?_
  obtain ⟨i, hi, rfl⟩ := List.getElem_of_mem hx'
  obtain ⟨j, hj, rfl⟩ := List.getElem_of_mem hy
  have hp := List.pairwise_iff_getElem.1 hs
  rcases Nat.lt_trichotomy i j with h3 | h3 | h3
  · have := hp i j hi hj h3
    unfold ltE at this
    omega
  · subst h3
    exact hne rfl
  · have := hp j i hj hi h3
    unfold ltE at this
    omega
theorem srt_of {l : List Pt} (h : Srt l) : srt l = l := srt_uniq (.refl _) h
def Dt (l : List Pt) : Prop := l.Pairwise fun x y => x.t ≠ y.t
theorem Tg.dt {l : List Pt} (h : Tg l) : Dt l := List.Pairwise.imp (fun {x y} h => by omega) h
theorem Dt.perm {l k : List Pt} (h : Dt l) (hp : k.Perm l) : Dt k := (hp.pairwise_iff (fun {x y} h => Ne.symm h)).2 h
theorem srt_sorted {l : List Pt} (h : Dt l) : Srt (srt l) :=
  List.Pairwise.imp₂ (fun x y h1 h2 => by rw [leB_iff] at h1; unfold ltE; omega) (srt_le l) (h.perm (srt_perm l))
theorem srt_mem {l : List Pt} {x : Pt} : x ∈ srt l ↔ x ∈ l := (srt_perm l).mem_iff
theorem srt_srt {l k : List Pt} (h : Dt (l ++ k)) : srt (srt l ++ srt k) = srt (l ++ k) :=
  srt_uniq (((srt_perm (l ++ k))).trans ((srt_perm l).symm.append (srt_perm k).symm)) (srt_sorted h)
theorem mid_put {S : List Pt} {x : Pt} {c : Nat} (h : Srt S) (h1 : ∀ y ∈ S.take c, ltE y x) (h2 : ∀ y ∈ S.drop c, ltE x y) : Srt (S.take c ++ x :: S.drop c) := by
  have h0 : Srt (S.take c ++ S.drop c) := by rw [List.take_append_drop]; exact h
  obtain ⟨h3, h4, h5⟩ := List.pairwise_append.1 h0
  refine List.pairwise_append.2 ⟨h3, List.pairwise_cons.2 ⟨h2, h4⟩, fun y hy z hz => ?_⟩
  rcases List.mem_cons.1 hz with rfl | hz
  · exact h1 y hy
  · exact h5 y hy z hz
theorem mid_perm2 {S : List Pt} {x : Pt} {c : Nat} : (S.take c ++ x :: S.drop c).Perm ([x] ++ S) := by
  have h := List.perm_middle (a := x) (l₁ := S.take c) (l₂ := S.drop c)
  rw [List.take_append_drop] at h
  exact h
theorem mid_perm {S : List Pt} {x : Pt} {c : Nat} : (S.take c ++ x :: S.drop c).Perm (S ++ [x]) := mid_perm2.trans (List.perm_append_singleton x S).symm
theorem n_mono {S : List Pt} (h : Srt S) {i j : Nat} (hij : i ≤ j) (hj : j < S.length) : (S[i]'(by omega)).n ≤ S[j].n := by
  rcases Nat.lt_or_ge i j with h1 | h1
  · have := List.pairwise_iff_getElem.1 h i j (by omega) hj h1
    unfold ltE at this
    omega
  · obtain rfl : i = j := by omega
    exact Int.le_refl _
theorem take_all {S : List Pt} {c : Nat} {P : Pt → Prop} (h : ∀ k (hk : k < S.length), k < c → P S[k]) : ∀ y ∈ S.take c, P y := fun y hy => by
  obtain ⟨k, hk, rfl⟩ := List.getElem_of_mem hy
  rw [List.length_take] at hk
  rw [List.getElem_take]
  exact h k (by omega) (by omega)
theorem drop_all {S : List Pt} {c : Nat} {P : Pt → Prop} (h : ∀ k (hk : k < S.length), c ≤ k → P S[k]) : ∀ y ∈ S.drop c, P y := fun y hy => by
  obtain ⟨k, hk, rfl⟩ := List.getElem_of_mem hy
  rw [List.length_drop] at hk
  rw [List.getElem_drop]
  exact h (c + k) (by omega) (by omega)
theorem ins_first {x : Pt} {B : List Pt} {c : Nat} (hB : Srt B) (ht : ∀ y ∈ B, x.t < y.t) (h1 : ∀ k (hk : k < B.length), k < c → B[k].n < x.n) (h2 : ∀ k (hk : k < B.length), c ≤ k → ¬ B[k].n < x.n) : srt ([x] ++ B) = B.take c ++ x :: B.drop c :=
  srt_uniq mid_perm2 (mid_put hB (take_all fun k hk h => .inl (h1 k hk h)) (drop_all fun k hk h => by
    have := h2 k hk h
    have := ht _ (List.getElem_mem hk)
    unfold ltE
    omega))
theorem ins_last {x : Pt} {A : List Pt} {c : Nat} (hA : Srt A) (ht : ∀ y ∈ A, y.t < x.t) (h1 : ∀ k (hk : k < A.length), k < c → ¬ x.n < A[k].n) (h2 : ∀ k (hk : k < A.length), c ≤ k → x.n < A[k].n) : srt (A ++ [x]) = A.take c ++ x :: A.drop c :=
  srt_uniq mid_perm (mid_put hA (take_all fun k hk h => by
    have := h1 k hk h
    have := ht _ (List.getElem_mem hk)
    unfold ltE
    omega) (drop_all fun k hk h => .inl (h2 k hk h)))
theorem srt_cut {A1 A2 B1 B2 : List Pt} (hA : Srt (A1 ++ A2)) (hB : Srt (B1 ++ B2)) (ht : ∀ x ∈ A1 ++ A2, ∀ y ∈ B1 ++ B2, x.t < y.t) (h1 : ∀ x ∈ A1, ∀ y ∈ B2, ltE x y) (h2 : ∀ y ∈ B1, ∀ x ∈ A2, ltE y x) :
    srt ((A1 ++ A2) ++ (B1 ++ B2)) = srt (A1 ++ B1) ++ srt (A2 ++ B2) := by
  obtain ⟨a1, a2, a3⟩ := List.pairwise_append.1 hA
  obtain ⟨b1, b2, b3⟩ := List.pairwise_append.1 hB
  have key : ∀ {X Y : List Pt}, Srt X → Srt Y → (∀ x ∈ X, ∀ y ∈ Y, x.t < y.t) → Srt (srt (X ++ Y)) := fun {X Y} hX hY h => by
    have hd : ∀ {Z : List Pt}, Srt Z → ∀ x ∈ Z, True := fun _ _ _ => trivial
    refine List.Pairwise.imp₂ (R := fun x y => leB x y = true) (S := fun x y => ltE x y ∨ ltE y x) (fun x y h1 h2 => by rw [leB_iff] at h1; unfold ltE at *; omega) (srt_le _) ?_
    refine ((srt_perm (X ++ Y)).pairwise_iff (fun {x y} h => Or.symm h)).2 (List.pairwise_append.2 ⟨hX.imp .inl, hY.imp .inl, fun x hx y hy => ?_⟩)
    have := h x hx y hy
    unfold ltE
    omega
  refine srt_uniq ?_ (List.pairwise_append.2 ⟨key a1 b1 fun x hx y hy => ht x (List.mem_append_left _ hx) y (List.mem_append_left _ hy), key a2 b2 fun x hx y hy => ht x (List.mem_append_right _ hx) y (List.mem_append_right _ hy), fun x hx y hy => ?_⟩)
  · refine ((srt_perm _).append (srt_perm _)).trans ?_
    rw [List.append_assoc, List.append_assoc]
    refine List.Perm.append_left A1 ?_
    rw [← List.append_assoc, ← List.append_assoc]
    exact List.Perm.append_right B2 List.perm_append_comm
  · rcases List.mem_append.1 (srt_mem.1 hx) with hx | hx <;> rcases List.mem_append.1 (srt_mem.1 hy) with hy | hy
    · exact a3 x hx y hy
    · exact h1 x hx y hy
    · exact h2 x hx y hy
    · exact b3 x hx y hy

/-! ### in blocks -/
def Gf (bs : Nat) : Nat → List Pt → List Pt
  | 0, l => srt l
  | f + 1, l => if bs ≤ l.length then srt (l.take bs) ++ Gf bs f (l.drop bs) else srt l
def G (bs : Nat) (l : List Pt) : List Pt := Gf bs l.length l
theorem srt_nil : srt [] = [] := by simp [srt]
theorem Gf_more {bs : Nat} (hb : 0 < bs) : ∀ (f : Nat) (l : List Pt), l.length ≤ f → Gf bs f l = Gf bs l.length l
  | f, l, h => by
    induction f using Nat.strongRecOn generalizing l with
    | _ f ih =>
      cases hl : l.length with
      | zero =>
        obtain rfl := List.length_eq_zero_iff.1 hl
        cases f with
        | zero => rfl
        | succ f => simp [Gf]; omega
      | succ k =>
        cases f with
        | zero => omega
        | succ f =>
          simp only [Gf]
          split
          · congr 1
            have hd : (l.drop bs).length ≤ f := by rw [List.length_drop]; omega
            have hd2 : (l.drop bs).length ≤ k := by rw [List.length_drop]; omega
            rw [ih f (by omega) _ hd]
            rcases Nat.lt_or_ge k (f + 1) with hk | hk
            · rw [ih k hk _ hd2]
            · omega
          · rfl
theorem G_ge {bs : Nat} (hb : 0 < bs) {l : List Pt} (h : bs ≤ l.length) : G bs l = srt (l.take bs) ++ G bs (l.drop bs) := by
  unfold G
  cases hl : l.length with
  | zero => omega
  | succ k =>
    have hd2 : (l.drop bs).length ≤ k := by rw [List.length_drop]; omega
    rw [Gf, if_pos (by omega), Gf_more hb k _ hd2]
theorem G_lt {bs : Nat} (hb : 0 < bs) {l : List Pt} (h : l.length ≤ bs) : G bs l = srt l := by
  rcases Nat.lt_or_ge l.length bs with h1 | h1
  · unfold G
    cases hl : l.length with
    | zero => rfl
    | succ k => rw [Gf, if_neg (by omega)]
  · have e : l.length = bs := by omega
    rw [G_ge hb h1, List.take_of_length_le (by omega), List.drop_of_length_le (by omega)]
    simp [G, Gf, srt_nil]
theorem G_len {bs : Nat} (hb : 0 < bs) : ∀ l : List Pt, (G bs l).length = l.length := fun l => by
  induction hk : l.length using Nat.strongRecOn generalizing l with
  | _ k ih =>
    rcases Nat.lt_or_ge l.length bs with h1 | h1
    · rw [G_lt hb (by omega), srt_len, hk]
    · rw [G_ge hb h1, List.length_append, srt_len, ih (l.drop bs).length (by rw [List.length_drop]; omega) _ rfl, List.length_take, List.length_drop]
      omega
end
end Go.Proofs.YtbahakgmbceflaaGreat
