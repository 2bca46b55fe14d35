/-
  Parts of the proof: AlI, AlJ0, AlJ, AlK, AlR, AlU.
-/
import Derived.Test.YtmochnclbcbijaaGreatSpk3
import Derived.RangeFuncLeaves
import Derived.RangeFuncRecord
import Derived.Laws.StructEq
import Derived.TacticsIn
import Derived.RangeFuncIn
import Derived.RangeFuncCalls
set_option linter.unusedVariables false
set_option linter.unusedSimpArgs false
namespace Go.Proofs.YtmochnclbcbijaaGreat
section
open Go.RowKit

mutual
/-- objects named anew: k by the k-th of a list -/
def AV.ren (l : List Nat) : AV → AV
  | .osl id => .osl (l.getD id 0)
  | .op id i j => .op (l.getD id 0) i j
  | .agg cs => .agg (AV.renL l cs)
  | .tup cs => .tup (AV.renL l cs)
  | .fn f cs => .fn f (AV.renL l cs)
  | .bfn f cs => .bfn f (AV.renL l cs)
  | .any => .any
  | .c v => .c v
  | .sl sz rows => .sl sz rows
  | .rp cs => .rp cs
def AV.renL (l : List Nat) : List AV → List AV
  | [] => []
  | a :: l2 => a.ren l :: AV.renL l l2
end
theorem renL_map (l : List Nat) : ∀ l2 : List AV, AV.renL l l2 = l2.map (·.ren l)
  | [] => rfl
  | a :: l2 => by simp [AV.renL, renL_map l l2]
/-- what is given back: the objects that it names are slices of the call's own -/
def aTabs (st : ASt) (ren : List Nat) : ATab → Prop
  | [] => True
  | (k, o) :: T => (k < ren.length ∧ (∃ e sz rows, o = some (.row e sz rows)) ∧ st.tab.get (ren.getD k 0) = o) ∧ aTabs st ren T
def aGives (R : Res) (st : ASt) (av : AV) : Prop := ∃ ren : List Nat, ren.Nodup ∧ R.r.ren ren = av ∧ aTabs st ren R.tab
def aResL (P : Program) (st : ASt) : List ResultVar → (List AV → Prop) → Prop
  | [], K => K []
  | .tmp t :: l, K => aResL P st l fun avs => K (st.get t :: avs)
  | .cell p ty :: l, K => aLoad P ty st.tab (st.get p) fun av => aResL P st l fun avs => K (av :: avs)
def aOne : List AV → AV
  | [x] => x
  | l => .tup l
def aRetR (P : Program) (rs : List ResultVar) (Post : Res → Prop) : Exit → ASt → Prop
  | .normal, st => aResL P st rs fun avs => ∃ R, Post R ∧ R.Ok ∧ aGives R st (aOne avs)
  | .ret, st => aResL P st rs fun avs => ∃ R, Post R ∧ R.Ok ∧ aGives R st (aOne avs)
  | _, _ => False
def aRet (P : Program) (rs : List ResultVar) (R : Res) : Exit → ASt → Prop
  | .normal, st => aResL P st rs fun avs => aGives R st (aOne avs)
  | .ret, st => aResL P st rs fun avs => aGives R st (aOne avs)
  | _, _ => False
theorem aRet_n {P : Program} {rs : List ResultVar} {R : Res} {st : ASt} : aRet P rs R .normal st = aResL P st rs fun avs => aGives R st (aOne avs) := rfl
theorem aRet_r {P : Program} {rs : List ResultVar} {R : Res} {st : ASt} : aRet P rs R .ret st = aResL P st rs fun avs => aGives R st (aOne avs) := rfl
theorem aRetR_n {P : Program} {rs : List ResultVar} {Post : Res → Prop} {st : ASt} : aRetR P rs Post .normal st = aResL P st rs fun avs => ∃ R, Post R ∧ R.Ok ∧ aGives R st (aOne avs) := rfl
theorem aRetR_r {P : Program} {rs : List ResultVar} {Post : Res → Prop} {st : ASt} : aRetR P rs Post .ret st = aResL P st rs fun avs => ∃ R, Post R ∧ R.Ok ∧ aGives R st (aOne avs) := rfl
def envOf : Nat → List AV → List (Nat × AV)
  | _, [] => []
  | k, a :: l => (k, a) :: envOf (k + 1) l
theorem aget_envOf : ∀ (l : List AV) (k t : Nat), aget (envOf k l) t = if k ≤ t then l.getD (t - k) .any else .any
  | [], k, t => by simp [envOf, aget]
  | a :: l, k, t => by
    simp only [envOf, aget]
    rw [aget_envOf l (k + 1) t]
    by_cases h : t = k
    · subst h
      simp
    · rw [if_neg h]
      by_cases h2 : k ≤ t
      · rw [if_pos (by omega), if_pos h2, show t - k = (t - (k + 1)) + 1 by omega]
        simp
      · rw [if_neg (by omega), if_neg h2]

section
variable {P : Program} {cx : Cx} {a : Act} {w w' : World} {tab : ATab} {st : ASt} {L : Nat → Value} {nx : Nat}
theorem tabs_get {ren : List Nat} : ∀ {T : ATab} {k : Nat} {o : AObj}, aTabs st ren T → T.get k = some o → k < ren.length ∧ (∃ e sz rows, o = .row e sz rows) ∧ st.tab.get (ren.getD k 0) = some o
  | [], k, o, _, h => by cases h
  | (j, oo) :: T, k, o, hp, h => by
    rw [ATab.get_cons] at h
    split at h
    · rename_i e
      subst e
      subst h
      obtain ⟨h1, ⟨e, sz, rows, h2⟩, h3⟩ := hp.1
      cases h2
      exact ⟨h1, ⟨e, sz, rows, rfl⟩, h3⟩
    · exact tabs_get hp.2 h
theorem asAddr_of_load {t : TypeId} {v u : Value} (h : (Instr.loadAt t v).run P w = .ok u w) : (do loadVar t (← asAddr v) : Sem Value).run P w = .ok u w := by
  cases v with
  | pointer p =>
    cases p with
    | none => simp [Instr.loadAt, Instr.sureAddr, Sem.run_bind] at h
    | some ad => simpa [Instr.loadAt, Instr.sureAddr, asAddr, Sem.run_bind] using h
  | _ => simp [Instr.loadAt, Instr.sureAddr, Sem.run_bind] at h
def resVar (tmps : Array Value) : ResultVar → Sem Value
  | .tmp t => pure (tmps.getD t undef)
  | .cell p t => do loadVar t (← asAddr (tmps.getD p undef))
theorem results_eq (fn : Func) (tmps : Array Value) : results fn tmps = (do
    let vs ← fn.results.mapM (resVar tmps)
    pure (if h : vs.size = 1 then vs[0] else .tuple vs)) := by
  unfold results
  congr 1
theorem resL_ok (h : Conc cx a w st L) : ∀ (l : List ResultVar) (K : List AV → Prop), aResL P st l K →
    ∃ vs avs, K avs ∧ vs.length = avs.length ∧ (∀ (j : Nat) (v : Value) (av : AV), vs[j]? = some v → avs[j]? = some av → RVx cx w st.tab L v av) ∧
      (l.mapM (resVar a.tmps) : Sem (List Value)).run P w = .ok vs w
  | [], K, hp => ⟨[], [], hp, rfl, by simp, by simp⟩
  | .tmp t :: l, K, hp => by
    obtain ⟨vs, avs, h1, h2, h3, h4⟩ := resL_ok h l _ hp
    refine ⟨a.tmps.getD t undef :: vs, st.get t :: avs, h1, by simp [h2], fun j v av h5 h6 => ?_, ?_⟩
    · cases j with
      | zero =>
        cases h5
        cases h6
        exact (h.env t).1
      | succ j => exact h3 j v av (by simpa using h5) (by simpa using h6)
    · simp only [List.mapM_cons, resVar, Sem.run_bind, Sem.run_pure, Result.andThen_ok, h4]
  | .cell p ty :: l, K, hp => by
    obtain ⟨u, au, h1, h2, h3, h4⟩ := (load_ok (nx := st.next) h.lay (fun id o hid => (h.young id o hid).2) (h.env p).1 hp).one
    obtain ⟨vs, avs, h5, h6, h7, h8⟩ := resL_ok h l _ h1
    refine ⟨u :: vs, au :: avs, h5, by simp [h6], fun j v av h9 h10 => ?_, ?_⟩
    · cases j with
      | zero =>
        cases h9
        cases h10
        exact h2
      | succ j => exact h7 j v av (by simpa using h9) (by simpa using h10)
    · have := asAddr_of_load (h4 w (Below.refl _ _))
      simp only [List.mapM_cons, resVar]
      rw [Sem.run_bind, this]
      simp only [Sem.run_bind, Sem.run_pure, Result.andThen_ok, h8]
theorem res_ok {fn : Func} {K : AV → Prop} (h : Conc cx a w st L) (hp : aResL P st fn.results.toList fun avs => K (aOne avs)) : ∃ v av, K av ∧ RVx cx w st.tab L v av ∧ (results fn a.tmps).run P w = .ok v w := by
  obtain ⟨vs, avs, h1, h2, h3, h4⟩ := resL_ok h _ _ hp
  have hm : (results fn a.tmps).run P w = .ok (if h : vs.toArray.size = 1 then vs.toArray[0] else .tuple vs.toArray) w := by
    rw [results_eq, Sem.run_bind, Array.mapM_eq_mapM_toList]
    simp only [bind_pure_comp, Sem.run_map, h4]
    rfl
  refine ⟨_, aOne avs, h1, ?_, hm⟩
  clear hm h4 h1
  match vs, avs, h2, h3 with
  | [v], [av], _, h3 => exact h3 0 v av rfl rfl
  | [], [], _, h3 => exact .tup _ _ rfl (by simp)
  | v :: v' :: vs, av :: av' :: avs, h2, h3 =>
    simp only [aOne, List.size_toArray, List.length_cons]
    rw [dif_neg (by omega)]
    exact .tup _ _ (by simpa using h2) fun j x av h4 h5 => h3 j x av (by simpa using h4) h5
mutual
theorem rv_ren {tab' : ATab} {L' : Nat → Value} {ren : List Nat} (hS : ∀ b, Sx cx w tab L b → Sx cx w tab' L' b) (hK : ∀ k p, Kx tab' L' k = some p → Kx tab L (ren.getD k 0) = some p) :
    ∀ (r : AV) (v : Value), RVx cx w tab L v (r.ren ren) → RVx cx w tab' L' v r
  | .any, v, _ => .tree (.any v)
  | .c x, v, h => by
    obtain rfl := RV.c_inv (v := x) h
    exact .tree (.c v)
  | .sl sz rows, v, h => .tree ((RV.sl_inv h).mono (fun _ _ => rfl) hS)
  | .osl id, v, h => .osl v id fun sz u hk => RV.osl_inv h sz u (hK id _ hk)
  | .agg cs, v, h => by
    simp only [AV.ren, renL_map] at h
    obtain ⟨xs, rfl, hn, hr⟩ := h.agg_inv
    exact .agg xs cs (by simpa using hn) fun j x av h1 h2 => rv_renL hS hK cs j x av h2 (hr j x _ h1 (by simp [h2]))
  | .tup cs, v, h => by
    simp only [AV.ren, renL_map] at h
    obtain ⟨xs, rfl, hn, hr⟩ := h.tup_inv
    exact .tup xs cs (by simpa using hn) fun j x av h1 h2 => rv_renL hS hK cs j x av h2 (hr j x _ h1 (by simp [h2]))
  | .fn f cs, v, h => by
    simp only [AV.ren, renL_map] at h
    obtain ⟨xs, rfl, hn, hr⟩ := h.fn_inv
    exact .fn f xs cs (by simpa using hn) fun j x av h1 h2 => rv_renL hS hK cs j x av h2 (hr j x _ h1 (by simp [h2]))
  | .bfn f cs, v, h => by
    simp only [AV.ren, renL_map] at h
    obtain ⟨xs, rfl, hn, hr⟩ := h.bfn_inv
    exact .bfn f xs cs (by simpa using hn) fun j x av h1 h2 => rv_renL hS hK cs j x av h2 (hr j x _ h1 (by simp [h2]))
  | .rp cs, v, h => by
    have : RT w (Sx cx w tab L) v (.rp cs) := by
      cases h with
      | tree h => exact h
    exact .tree (this.mono (fun _ _ => rfl) hS)
  | .op id i j, v, h => .op v id i j fun sz u hk => RV.op_inv h sz u (hK id _ hk)
theorem rv_renL {tab' : ATab} {L' : Nat → Value} {ren : List Nat} (hS : ∀ b, Sx cx w tab L b → Sx cx w tab' L' b) (hK : ∀ k p, Kx tab' L' k = some p → Kx tab L (ren.getD k 0) = some p) :
    ∀ (l : List AV) (j : Nat) (v : Value) (av : AV), l[j]? = some av → RVx cx w tab L v (av.ren ren) → RVx cx w tab' L' v av
  | [], j, v, av, h, _ => by simp at h
  | a :: l, 0, v, av, h, hr => by
    simp at h
    subst h
    exact rv_ren hS hK a v hr
  | a :: l, j + 1, v, av, h, hr => rv_renL hS hK l j v av (by simpa using h) hr
end
end
/-! ### the end of loops over a function -/
/-- but for what is no cells all is as it was -/
structure KeepM (base : Nat) (w w' : World) : Prop where
  below : Below base w w'
  size : w'.heap.size = w.heap.size
  cell : ∀ p, w'.cell? p = w.cell? p
  cells : ∀ (k : Nat) cs t x, w.heap[k]? = some (Obj.cells cs t x) → w'.heap[k]? = some (Obj.cells cs t x)
  maps : ∀ (k : Nat) es c, w.heap[k]? = some (Obj.map es c) → w'.heap[k]? = some (Obj.map es c)
theorem KeepM.refl (base : Nat) (w : World) : KeepM base w w := ⟨Below.refl _ _, rfl, fun _ => rfl, fun _ _ _ _ h => h, fun _ _ _ h => h⟩
theorem KeepM.trans {base : Nat} {w w' w'' : World} (h : KeepM base w w') (k : KeepM base w' w'') : KeepM base w w'' :=
  ⟨h.below.trans k.below, k.size.trans h.size, fun p => (k.cell p).trans (h.cell p), fun b cs t x hb => k.cells b cs t x (h.cells b cs t x hb), fun b es c hb => k.maps b es c (h.maps b es c hb)⟩
theorem KeepM.put {base k : Nat} {w : World} {o : Option (List Deferred)} (hk : base ≤ k) (h : w.heap[k]? = some (.deferred o)) (o' : Option (List Deferred)) : KeepM base w (w.putObj k (.deferred o')) := by
  have hother : ∀ j, j ≠ k → (w.putObj k (.deferred o')).heap[j]? = w.heap[j]? := fun j hj => World.putObj_heap_other hj
  have hlt : k < w.heap.size := (Array.getElem?_eq_some_iff.1 h).1
  refine ⟨⟨rfl, rfl, rfl, by simp, fun j hj => hother j (by omega)⟩, by simp, fun p => ?_, fun j cs t x hj => ?_, fun j es c hj => ?_⟩
  · by_cases e : p.block = k
    · have h1 : (w.putObj k (.deferred o')).heap[p.block]? = some (.deferred o') := by rw [e]; exact World.putObj_heap_same hlt
      have h2 : w.heap[p.block]? = some (.deferred o) := by rw [e]; exact h
      unfold World.cell?
      rw [h1, h2]
    · exact World.cell?_of_block (hother p.block e)
  · by_cases e : j = k
    · rw [e, h] at hj
      cases hj
    · rw [hother j e]
      exact hj
  · by_cases e : j = k
    · rw [e, h] at hj
      cases hj
    · rw [hother j e]
      exact hj
theorem KeepM.turn {base k : Nat} {w : World} {o : Loop} (hk : base ≤ k) (h : w.heap[k]? = some (.loop o)) (o' : Loop) : KeepM base w (w.putObj k (.loop o')) := by
  have hother : ∀ j, j ≠ k → (w.putObj k (.loop o')).heap[j]? = w.heap[j]? := fun j hj => World.putObj_heap_other hj
  have hlt : k < w.heap.size := (Array.getElem?_eq_some_iff.1 h).1
  refine ⟨⟨rfl, rfl, rfl, by simp, fun j hj => hother j (by omega)⟩, by simp, fun p => ?_, fun j cs t x hj => ?_, fun j es c hj => ?_⟩
  · by_cases e : p.block = k
    · have h1 : (w.putObj k (.loop o')).heap[p.block]? = some (.loop o') := by rw [e]; exact World.putObj_heap_same hlt
      have h2 : w.heap[p.block]? = some (.loop o) := by rw [e]; exact h
      unfold World.cell?
      rw [h1, h2]
    · exact World.cell?_of_block (hother p.block e)
  · by_cases e : j = k
    · rw [e, h] at hj
      cases hj
    · rw [hother j e]
      exact hj
  · by_cases e : j = k
    · rw [e, h] at hj
      cases hj
    · rw [hother j e]
      exact hj
section
variable {cx : Cx} {a : Act} {w w' : World} {st : ASt} {L : Nat → Value}
theorem conc_keep (h : Conc cx a w st L) (hk : KeepM cx.w0.heap.size w w') {ds : List Deferred} (hm : Marks cx.w0.heap.size w' (Sx cx w' st.tab L) ds) : Conc cx { a with defers := ds } w' st L := by
  have hS : ∀ b, Sx cx w st.tab L b → Sx cx w' st.tab L b := fun b hb => ⟨by rw [hk.size]; exact hb.1, hb.2.1, hb.2.2⟩
  have hrv : ∀ {x av nx}, RVx cx w st.tab L x av → av.lt nx → RVx cx w' st.tab L x av := fun hr hl => hr.mono hl (fun p _ => hk.cell p) hS (fun _ _ _ h => h)
  refine ⟨⟨h.lay.below.trans (belowX hk.below), fun id o hid => ?_, h.lay.sep, fun b hb => ⟨by rw [hk.size]; exact (h.lay.ex b hb).1, (h.lay.ex b hb).2⟩⟩, h.size, hm, h.young, fun t => ⟨hrv (h.env t).1 (h.env t).2, (h.env t).2⟩⟩
  have ho := h.lay.objs id o hid
  have hy := (h.young id o hid).2
  cases o with
  | box t cells =>
    obtain ⟨g, cs, h1, h2, h3, h4, h5⟩ := ho
    exact ⟨g, cs, h1, h2, hk.cells _ _ _ _ h3, h4, fun j x av h6 h7 => ⟨hrv (h5 j x av h6 h7).1 (ltL_iff.1 hy _ (List.mem_of_getElem? h7)), (h5 j x av h6 h7).2⟩⟩
  | row e sz rows =>
    obtain ⟨h1, xs, hown, h2, h3⟩ := ho
    refine ⟨h1, xs, ⟨hown.1, ?_⟩, h2, fun i j row av ha hb => ?_⟩
    · rcases hown.2 with hn | ⟨g, cap, cur, h4, hb, hh, rest⟩
      · exact .inl hn
      · exact .inr ⟨g, cap, cur, h4, hb, hk.cells _ _ _ _ hh, rest⟩
    · obtain ⟨x, hx, hr⟩ := h3 i j row av ha hb
      exact ⟨x, hx, hr.mono (fun p _ => hk.cell p) hS⟩
  | map ents =>
    obtain ⟨b, es, ck, h1, h2, h3, h4⟩ := ho
    exact ⟨b, es, ck, h1, h2, hk.maps _ _ _ h3, h4⟩
  | ghost vs env => exact ⟨ho.1, fun t ht => hrv (ho.2 t ht) (envLt_aget hy t)⟩
end
theorem conc_keepM {cx : Cx} {a : Act} {w w' : World} {st : ASt} {L : Nat → Value} (h : Conc cx a w st L) (hk : KeepM cx.w0.heap.size w w') : Conc cx { a with defers := [] } w' st L := conc_keep h hk (Marks.nil _ _ _)
theorem leaves_marks {P : Program} {fn : Func} {tmps : Array Value} {R : Ending → World → Prop} {base : Nat} {S : Nat → Prop} : ∀ (ds : List Deferred) (w : World), Marks base w S ds → (∀ w', KeepM base w w' → LeavesIn Fence.wide 0 P fn tmps R [] .returning w') → LeavesInM Fence.wide 0 P fn tmps R ds .returning w
  | [], w, _, h => h w (KeepM.refl _ _)
  | d :: ds, w, hm, h => by
    obtain ⟨k, rfl, h1, h2, h3⟩ := hm.2 d (List.mem_cons_self ..)
    have hk := KeepM.put h1 h2 none
    refine ⟨by simp, .inl ⟨k, _, rfl, run_takeDeferred h2, leaves_marks (S := S) ds _ ⟨(List.nodup_cons.1 hm.1).2, fun d' hd' => ?_⟩ fun w' hw' => h w' (hk.trans hw')⟩⟩
    obtain ⟨k', rfl, h4, h5, h6⟩ := hm.2 d' (List.mem_cons_of_mem _ hd')
    refine ⟨k', rfl, h4, ?_, h6⟩
    have hne : k' ≠ k := fun e => (List.nodup_cons.1 hm.1).1 (by rw [← e]; exact hd')
    rw [World.putObj_heap_other hne]
    exact h5
/-- A FUNCTION's CONTRACT OUT OF ITS CODE. -/
theorem arel_of_wp {P : Program} {f : FuncId} {fn : Func} {c : Code} (hf : P.funcs[f]? = some fn) (hb : fn.body = some c) (hname : (fn.name == "runtime.NumGoroutine") = false) {args : List AV} {Post : Res → Prop} {n : Nat} (hnt : fn.ntmps = n) {rs : List ResultVar} (hrs : fn.results = rs.toArray) (hn : Nat.ble args.length n = true)
    (h : ∀ (cx : Cx) (a : Act) (w : World) (L : Nat → Value), Conc cx a w ⟨n, envOf 0 args, [], 0⟩ L → c.wp P (AfterC cx (aRetR P rs Post)) a w) : ARel P f args Post := by
  have hn := Nat.le_of_ble_eq_true hn
  subst hnt
  have hrs : fn.results.toList = rs := by rw [hrs]
  refine ⟨fun vs w => ?_, fun S w vs hS hvs hv => ?_⟩
  · have : ¬ fn.name = "runtime.NumGoroutine" := by simpa using hname
    simp [callFunc, Sem.run_bind, hf, this, hb]
  · let cx : Cx := (Cx.mk0 S w hS)
    refine (callsIn_wide (n := 0)).1 (callsIn_of_wp_marks hf hb trivial (wpIn_wide.2 ?_))
    have hL : Lay cx w [] (fun _ => undef) := ⟨belowX (Below.refl _ _), fun id o h => (by cases h), fun id id' o o' g h => (by cases h), fun b hb => hb.elim⟩
    have hC : Conc cx { tmps := vs ++ Array.replicate (fn.ntmps - vs.size) undef, defers := [] } w ⟨fn.ntmps, envOf 0 args, [], 0⟩ (fun _ => undef) := by
      refine ⟨hL, ?_, Marks.nil _ _ _, fun id o h => (by cases h), fun t => ?_⟩
      · simp
        omega
      have e : (⟨fn.ntmps, envOf 0 args, [], 0⟩ : ASt).get t = args.getD t .any := by
        show (if t < fn.ntmps then aget (envOf 0 args) t else .any) = _
        rw [aget_envOf]
        split
        · simp
        · simp [List.getD, List.getElem?_eq_none (show args.length ≤ t by omega)]
      rw [e]
      by_cases ht : t < args.length
      · have ht' : t < vs.size := by omega
        have e2 : (vs ++ Array.replicate (fn.ntmps - vs.size) undef).getD t undef = vs[t] := by
          rw [Array.getD_eq_getD_getElem?, Array.getElem?_append_left ht', Array.getElem?_eq_getElem ht']
          rfl
        have e3 : args.getD t .any = args[t] := by simp [List.getD, ht]
        rw [e2, e3]
        have := hv t _ _ (Array.getElem?_eq_getElem ht') (List.getElem?_eq_getElem ht)
        exact ⟨.tree (this.mono (fun _ _ => rfl) fun b hb => ⟨hS b hb, ⟨.inl hb, fun h => h⟩, fun id o h => by cases h⟩), this.lt 0⟩
      · have e3 : args.getD t .any = .any := by simp [List.getD, List.getElem?_eq_none (Nat.le_of_not_lt ht)]
        rw [e3]
        exact ⟨.tree (.any _), trivial⟩
    refine Code.wp_mono (fun e a w' ⟨st, L, h1, h2⟩ => ?_) (h cx _ w _ hC)
    rw [← hrs] at h1
    have key : (aResL P st fn.results.toList fun avs => ∃ R, Post R ∧ R.Ok ∧ aGives R st (aOne avs)) → LeavesInM Fence.wide 0 P fn a.tmps (fun e w' => ∃ v' L R, Post R ∧ R.Ok ∧ e = .returned v' ∧ Lay cx w' R.tab L ∧ RVx cx w' R.tab L v' R.r) a.defers .returning w' := fun h1 => by
      refine leaves_marks _ _ h2.defers fun w2 hk2 => ?_
      have h2 := conc_keepM h2 hk2
      clear hk2
      generalize w2 = w' at h2
      obtain ⟨v, av, ⟨R, hPost, hok, ren, hnd, hr, ht⟩, h4, h5⟩ := res_ok (K := fun av => ∃ R, Post R ∧ R.Ok ∧ aGives R st av) h2 h1
      refine ⟨v, h5, v, fun k => L (ren.getD k 0), R, hPost, hok, rfl, ?_⟩
      subst hr
      have hget := fun k o => tabs_get (st := st) (T := R.tab) (k := k) (o := o) ht
      have hsub : ∀ b, Sx cx w' st.tab L b → Sx cx w' R.tab (fun k => L (ren.getD k 0)) b := fun b hb => ⟨hb.1, hb.2.1, fun k o hk => hb.2.2 _ o (hget k o hk).2.2⟩
      refine ⟨⟨h2.lay.below, fun k o hk => ?_, fun k k' o o' g h6 h7 h8 h9 => ?_, fun b hb => hb.elim⟩, rv_ren hsub (fun k p hk => ?_) _ _ h4⟩
      · obtain ⟨h6, ⟨e, sz, rows, rfl⟩, h7⟩ := hget k o hk
        obtain ⟨h8, xs, h9, h10, h11⟩ := h2.lay.objs _ _ h7
        refine ⟨h8, xs, h9, h10, fun i j row av h12 h13 => ?_⟩
        obtain ⟨x, hx, hrt⟩ := h11 i j row av h12 h13
        exact ⟨x, hx, hrt.mono (fun _ _ => rfl) hsub⟩
      · obtain ⟨ha, _, hb⟩ := hget k o h6
        obtain ⟨ha', _, hb'⟩ := hget k' o' h7
        have := h2.lay.sep _ _ o o' g hb hb' h8 h9
        simp only [List.getD, List.getElem?_eq_getElem ha, List.getElem?_eq_getElem ha', Option.getD_some] at this
        have hp := List.pairwise_iff_getElem.1 hnd
        rcases Nat.lt_trichotomy k k' with hlt | he | hlt
        · exact absurd this (hp k k' ha ha' hlt)
        · exact he
        · exact absurd this.symm (hp k' k ha' ha hlt)
      · unfold Kx at *
        cases ho : R.tab.get k with
        | none => simp [ho] at hk
        | some o =>
          rw [(hget k o ho).2.2]
          simpa [ho] using hk
    cases e with
    | normal => exact key h1
    | ret => exact key h1
    | _ => exact h1.elim
theorem retL_mono {P : Program} {st : ASt} : ∀ {l : List ResultVar} {K K' : List AV → Prop}, (∀ avs, K avs → K' avs) → aResL P st l K → aResL P st l K'
  | [], K, K', h, hp => h _ hp
  | .tmp t :: l, K, K', h, hp => retL_mono (l := l) (fun avs h2 => h _ h2) hp
  | .cell p ty :: l, K, K', h, hp => by
    have step : ∀ av, (aResL P st l fun avs => K (av :: avs)) → aResL P st l fun avs => K' (av :: avs) := fun av => retL_mono (l := l) (fun avs h2 => h _ h2)
    have take : ∀ cs, aTake P ty cs (fun av => aResL P st l fun avs => K (av :: avs)) → aTake P ty cs (fun av => aResL P st l fun avs => K' (av :: avs)) := fun cs ⟨h1, h2, h3⟩ => ⟨h1, h2, by
      split at h3
      · rw [if_pos (by assumption)]; exact step _ h3
      · rw [if_neg (by assumption)]; exact step _ h3⟩
    unfold aResL aLoad at hp ⊢
    split at hp
    · exact take _ hp
    · split at hp
      · rename_i h0
        first | simp only [h0] | skip
        exact ⟨hp.1, take _ hp.2⟩
      · rename_i h0
        first | simp only [h0] | skip
        exact ⟨hp.1, take _ hp.2⟩
      · exact hp.elim
    · exact hp.elim
theorem aRet_R {P : Program} {rs : List ResultVar} {R : Res} (hok : R.Ok) (e : Exit) (st : ASt) (h : aRet P rs R e st) : aRetR P rs (fun R' => R' = R) e st := by
  cases e with
  | normal => exact retL_mono (fun avs h => ⟨R, rfl, hok, h⟩) h
  | ret => exact retL_mono (fun avs h => ⟨R, rfl, hok, h⟩) h
  | _ => exact h.elim
theorem adet_of_wp {P : Program} {f : FuncId} {fn : Func} {c : Code} (hf : P.funcs[f]? = some fn) (hb : fn.body = some c) (hname : (fn.name == "runtime.NumGoroutine") = false) {args : List AV} {R : Res} {n : Nat} (hnt : fn.ntmps = n) {rs : List ResultVar} (hrs : fn.results = rs.toArray) (hn : Nat.ble args.length n = true)
    (hok : R.Ok) (h : ∀ (cx : Cx) (a : Act) (w : World) (L : Nat → Value), Conc cx a w ⟨n, envOf 0 args, [], 0⟩ L → c.wp P (AfterC cx (aRet P rs R)) a w) : ADet P f args R :=
  arel_of_wp hf hb hname hnt hrs hn fun cx a w L hc => Code.wp_mono (fun e a w ⟨st, L, h1, h2⟩ => ⟨st, L, aRet_R hok e st h1, h2⟩) (h cx a w L hc)
theorem arel_of_code {P : Program} (hm : P.follows .mixedOrders = true) {f : FuncId} {fn : Func} {c : Code} (hf : P.funcs[f]? = some fn) (hb : fn.body = some c) (hname : (fn.name == "runtime.NumGoroutine") = false) {args : List AV} {Post : Res → Prop} {n : Nat} (hnt : fn.ntmps = n) {rs : List ResultVar} (hrs : fn.results = rs.toArray) (hn : Nat.ble args.length n = true)
    (h : aCode P c (aRetR P rs Post) ⟨n, envOf 0 args, [], 0⟩) : ARel P f args Post :=
  arel_of_wp hf hb hname hnt hrs hn fun cx a w L hc => code_ok hm c _ a w _ L hc h
theorem adet_of_code {P : Program} (hm : P.follows .mixedOrders = true) {f : FuncId} {fn : Func} {c : Code} (hf : P.funcs[f]? = some fn) (hb : fn.body = some c) (hname : (fn.name == "runtime.NumGoroutine") = false) {args : List AV} {R : Res} {n : Nat} (hnt : fn.ntmps = n) {rs : List ResultVar} (hrs : fn.results = rs.toArray) (hn : Nat.ble args.length n = true)
    (hok : R.Ok) (h : aCode P c (aRet P rs R) ⟨n, envOf 0 args, [], 0⟩) : ADet P f args R :=
  adet_of_wp hf hb hname hnt hrs hn hok fun cx a w L hc => code_ok hm c _ a w _ L hc h
end
section
open Go.RowKit

def envIn (st : ASt) : List (Nat × AV) → Prop
  | [] => True
  | (t, av) :: l => st.get t = av ∧ envIn st l
def tabIn (st : ASt) : ATab → Prop
  | [] => True
  | (id, o) :: l => st.tab.get id = o ∧ tabIn st l
def tabLt (nx : Nat) : ATab → Prop
  | [] => True
  | (id, some o) :: l => (id < nx ∧ o.lt nx) ∧ tabLt nx l
  | (_, none) :: l => tabLt nx l
theorem envIn_get {st : ASt} {nx : Nat} : ∀ {l : List (Nat × AV)} (t : Nat), envIn st l → envLt nx l → (aget l t = st.get t ∨ aget l t = .any) ∧ (aget l t).lt nx
  | [], t, _, _ => ⟨.inr rfl, trivial⟩
  | (k, av) :: l, t, h, hl => by
    unfold aget
    split
    · rename_i e
      rw [e]
      exact ⟨.inl h.1.symm, hl.1⟩
    · exact envIn_get t h.2 hl.2
theorem tabIn_get {st : ASt} {nx : Nat} : ∀ {l : ATab} {id : Nat} {o : AObj}, tabIn st l → tabLt nx l → l.get id = some o → st.tab.get id = some o ∧ id < nx ∧ o.lt nx
  | [], id, o, _, _, h => by cases h
  | (k, oo) :: l, id, o, h, hl, hg => by
    rw [ATab.get_cons] at hg
    split at hg
    · rename_i e
      subst e
      subst hg
      exact ⟨h.1, hl.1.1, hl.1.2⟩
    · cases oo with
      | none => exact tabIn_get h.2 hl hg
      | some => exact tabIn_get h.2 hl.2 hg
/-- what is needed no more is let go -/
theorem weak_cut {st : ASt} {n nx : Nat} {env : List (Nat × AV)} {tab : ATab} (hn : st.n = n) (he : envIn st env) (ht : tabIn st tab) (hl : envLt nx env) (hl2 : tabLt nx tab) : Weak st ⟨n, env, tab, nx⟩ := by
  intro cx a w L h
  have hsub : ∀ id o, tab.get id = some o → st.tab.get id = some o := fun id o hid => (tabIn_get ht hl2 hid).1
  have hS : ∀ b, Sx cx w st.tab L b → Sx cx w tab L b := fun b hb => ⟨hb.1, hb.2.1, fun id o hid => hb.2.2 id o (hsub id o hid)⟩
  have hK : ∀ id p, Kx tab L id = some p → Kx st.tab L id = some p := fun id p hk => by
    unfold Kx at *
    cases ho : tab.get id with
    | none => simp [ho] at hk
    | some o => rw [hsub id o ho]; simpa [ho] using hk
  have hrv : ∀ x av, RVx cx w st.tab L x av → RVx cx w tab L x av := fun x av hr => by
    have : ∀ nx', av.lt nx' → RVx cx w tab L x av := fun nx' hlt => hr.mono hlt (fun _ _ => rfl) hS (fun id p _ hk => hK id p hk)
    induction hr with
    | tree h => exact .tree (h.mono (fun _ _ => rfl) hS)
    | osl x id h => exact .osl x id fun sz v e => h sz v (hK id _ e)
    | op x id i j h => exact .op x id i j fun sz v e => h sz v (hK id _ e)
    | agg xs cs hn hr ih => exact .agg xs cs hn fun j x av h1 h2 => ih j x av h1 h2 fun nx' hlt => (hr j x av h1 h2).mono hlt (fun _ _ => rfl) hS (fun id p _ hk => hK id p hk)
    | tup xs cs hn hr ih => exact .tup xs cs hn fun j x av h1 h2 => ih j x av h1 h2 fun nx' hlt => (hr j x av h1 h2).mono hlt (fun _ _ => rfl) hS (fun id p _ hk => hK id p hk)
    | fn fi xs cs hn hr ih => exact .fn fi xs cs hn fun j x av h1 h2 => ih j x av h1 h2 fun nx' hlt => (hr j x av h1 h2).mono hlt (fun _ _ => rfl) hS (fun id p _ hk => hK id p hk)
    | bfn fi xs cs hn hr ih => exact .bfn fi xs cs hn fun j x av h1 h2 => ih j x av h1 h2 fun nx' hlt => (hr j x av h1 h2).mono hlt (fun _ _ => rfl) hS (fun id p _ hk => hK id p hk)
  refine ⟨L, ⟨⟨h.lay.below, fun id o hid => ?_, fun id id' o o' g h1 h2 => h.lay.sep id id' o o' g (hsub id o h1) (hsub id' o' h2), fun b hb => ⟨(h.lay.ex b hb).1, fun id o hid => (h.lay.ex b hb).2 id o (hsub id o hid)⟩⟩, h.size.trans hn, h.defers.mono (fun _ _ => rfl) hS, fun id o hid => (tabIn_get ht hl2 hid).2, fun t => ?_⟩, hS⟩
  · have ho := h.lay.objs id o (hsub id o hid)
    have hext : Ext cx w st.tab L 0 w tab L := ⟨fun _ _ => rfl, hS, fun id p hlt => by omega⟩
    cases o with
    | box t cells =>
      obtain ⟨g, cs, h1, h2, h3, h4, h5⟩ := ho
      exact ⟨g, cs, h1, h2, h3, h4, fun j x av h6 h7 => ⟨hrv x av (h5 j x av h6 h7).1, (h5 j x av h6 h7).2⟩⟩
    | row e sz rows =>
      obtain ⟨h1, xs, h2, h3, h4⟩ := ho
      refine ⟨h1, xs, h2, h3, fun i j row av h5 h6 => ?_⟩
      obtain ⟨x, hx, hr⟩ := h4 i j row av h5 h6
      exact ⟨x, hx, hext.rt hr⟩
    | map ents => exact ho
    | ghost vs env => exact ⟨ho.1, fun t ht => hrv _ _ (ho.2 t ht)⟩
  · obtain ⟨h1, h2⟩ := envIn_get t he hl
    show RVx cx w tab L _ (if t < n then aget env t else .any) ∧ (if t < n then aget env t else .any).lt nx
    split
    case isFalse => exact ⟨.tree (.any _), trivial⟩
    refine ⟨?_, h2⟩
    rcases h1 with h1 | h1
    · rw [h1]
      exact hrv _ _ (h.env t).1
    · rw [h1]
      exact .tree (.any _)
theorem Weak.trans {st st' st'' : ASt} (h : Weak st st') (h2 : Weak st' st'') : Weak st st'' := fun cx a w L hc => (h cx a w L hc).elim fun L' hc' => (h2 cx a w L' hc'.1).elim fun L2 h3 => ⟨L2, h3.1, fun b hb => h3.2 b (hc'.2 b hb)⟩
def renEnv (l : List Nat) : List (Nat × AV) → List (Nat × AV)
  | [] => []
  | (t, av) :: r => (t, av.ren l) :: renEnv l r
theorem renEnv_get (l : List Nat) : ∀ (r : List (Nat × AV)) (t : Nat), aget (renEnv l r) t = (aget r t).ren l
  | [], t => rfl
  | (q, av) :: r, t => by
    unfold renEnv aget
    split
    · rfl
    · exact renEnv_get l r t
def AObj.ren (l : List Nat) : AObj → AObj
  | .box t cells => .box t (AV.renL l cells)
  | .row e sz rows => .row e sz rows
  | .map ents => .map ents
  | .ghost vs env => .ghost vs (renEnv l env)
theorem AObj.ren_sz (l : List Nat) (o : AObj) : (o.ren l).sz = o.sz := by cases o <;> simp [AObj.ren, AObj.sz, renL_map]
def envInR (st : ASt) (ids : List Nat) : List (Nat × AV) → Prop
  | [] => True
  | (t, av) :: l => st.get t = av.ren ids ∧ envInR st ids l
def tabInR (st : ASt) (ids : List Nat) : ATab → Prop
  | [] => True
  | (id, some o) :: l => (id < ids.length ∧ st.tab.get (ids.getD id 0) = some (o.ren ids)) ∧ tabInR st ids l
  | (_, none) :: l => tabInR st ids l
theorem envInR_get {st : ASt} {ids : List Nat} {nx : Nat} : ∀ {l : List (Nat × AV)} (t : Nat), envInR st ids l → envLt nx l → ((aget l t).ren ids = st.get t ∨ aget l t = .any) ∧ (aget l t).lt nx
  | [], t, _, _ => ⟨.inr rfl, trivial⟩
  | (k, av) :: l, t, h, hl => by
    unfold aget
    split
    · rename_i e
      rw [e]
      exact ⟨.inl h.1.symm, hl.1⟩
    · exact envInR_get t h.2 hl.2
theorem tabInR_get {st : ASt} {ids : List Nat} {nx : Nat} : ∀ {l : ATab} {id : Nat} {o : AObj}, tabInR st ids l → tabLt nx l → l.get id = some o → (id < ids.length ∧ st.tab.get (ids.getD id 0) = some (o.ren ids)) ∧ id < nx ∧ o.lt nx
  | [], id, o, _, _, h => by cases h
  | (k, some oo) :: l, id, o, h, hl, hg => by
    rw [ATab.get_cons] at hg
    split at hg
    · rename_i e
      subst e
      cases hg
      exact ⟨h.1, hl.1.1, hl.1.2⟩
    · exact tabInR_get h.2 hl.2 hg
  | (k, none) :: l, id, o, h, hl, hg => by
    rw [ATab.get_cons] at hg
    split at hg
    · cases hg
    · exact tabInR_get (l := l) h hl hg
/-- what is needed no more is let go, and the objects are numbered anew -/
theorem weak_ren {st : ASt} {n nx : Nat} {env : List (Nat × AV)} {tab : ATab} (ids : List Nat) (hnd : ids.Nodup) (hn : st.n = n) (he : envInR st ids env) (ht : tabInR st ids tab) (hl : envLt nx env) (hl2 : tabLt nx tab) : Weak st ⟨n, env, tab, nx⟩ := by
  intro cx a w L h
  have hget : ∀ k o, tab.get k = some o → k < ids.length ∧ st.tab.get (ids.getD k 0) = some (o.ren ids) := fun k o hk => (tabInR_get ht hl2 hk).1
  have hS : ∀ b, Sx cx w st.tab L b → Sx cx w tab (fun k => L (ids.getD k 0)) b := fun b hb => ⟨hb.1, hb.2.1, fun k o hk => hb.2.2 _ _ (hget k o hk).2⟩
  have hK : ∀ k p, Kx tab (fun k => L (ids.getD k 0)) k = some p → Kx st.tab L (ids.getD k 0) = some p := fun k p hk => by
    unfold Kx at *
    cases ho : tab.get k with
    | none => simp [ho] at hk
    | some o =>
      rw [(hget k o ho).2]
      simpa [ho, AObj.ren_sz] using hk
  refine ⟨fun k => L (ids.getD k 0), ⟨⟨h.lay.below, fun k o hk => ?_, fun k k' o o' g h6 h7 h8 h9 => ?_, fun b hb => ⟨(h.lay.ex b hb).1, fun k o hk => (h.lay.ex b hb).2 _ _ (hget k o hk).2⟩⟩, h.size.trans hn, h.defers.mono (fun _ _ => rfl) hS, fun id o hid => (tabInR_get ht hl2 hid).2, fun t => ?_⟩, hS⟩
  · obtain ⟨_, h7⟩ := hget k o hk
    have ho := h.lay.objs _ _ h7
    cases o with
    | box t cells =>
      obtain ⟨g, cs, h1, h2, h3, h4, h5⟩ := ho
      refine ⟨g, cs, h1, h2, h3, by simpa [renL_map] using h4, fun j x av h6 h8 => ?_⟩
      have h9 := h5 j x (av.ren ids) h6 (by rw [renL_map, List.getElem?_map, h8]; rfl)
      exact ⟨rv_ren hS hK av x h9.1, h9.2⟩
    | row e sz rows =>
      obtain ⟨h1, xs, h2, h3, h4⟩ := ho
      refine ⟨h1, xs, h2, h3, fun i j row av h5 h6 => ?_⟩
      obtain ⟨x, hx, hr⟩ := h4 i j row av h5 h6
      exact ⟨x, hx, hr.mono (fun _ _ => rfl) hS⟩
    | map ents => exact ho
    | ghost vs env =>
      refine ⟨ho.1, fun t ht => rv_ren hS hK _ _ ?_⟩
      have h9 := ho.2 t ht
      rwa [renEnv_get] at h9
  · obtain ⟨ha, hb⟩ := hget k o h6
    obtain ⟨ha', hb'⟩ := hget k' o' h7
    have := h.lay.sep _ _ _ _ g hb hb' h8 h9
    simp only [List.getD, List.getElem?_eq_getElem ha, List.getElem?_eq_getElem ha', Option.getD_some] at this
    have hp := List.pairwise_iff_getElem.1 hnd
    rcases Nat.lt_trichotomy k k' with hlt | he | hlt
    · exact absurd this (hp k k' ha ha' hlt)
    · exact he
    · exact absurd this.symm (hp k' k ha' ha hlt)
  · obtain ⟨h1, h2⟩ := envInR_get t he hl
    show RVx cx w tab _ _ (if t < n then aget env t else .any) ∧ (if t < n then aget env t else .any).lt nx
    split
    case isFalse => exact ⟨.tree (.any _), trivial⟩
    refine ⟨?_, h2⟩
    rcases h1 with h1 | h1
    · refine rv_ren hS hK _ _ ?_
      rw [h1]
      exact (h.env t).1
    · rw [h1]
      exact .tree (.any _)
/-- no slice, seen as a slice of the call's own that is empty -/
theorem weak_nil {st : ASt} (t e sz : Nat) (hg : st.get t = .c (.slice none 0 0)) : Weak st ⟨st.n, (t, .osl st.next) :: st.env, (st.next, some (.row e sz [])) :: st.tab, st.next + 1⟩ := by
  intro cx a w L h
  have hv := (h.env t).1
  rw [hg] at hv
  have hv := hv.c_inv
  have hput : a.put (some t) (.slice none 0 0) = a := by
    unfold Act.put
    have : a.tmps.setIfInBounds t (.slice none 0 0) = a.tmps := by
      apply Array.ext (by simp)
      intro i h1 h2
      rw [Array.getElem_setIfInBounds]
      split
      · rename_i e
        subst e
        rw [← hv]
        simp [Array.getD, h2]
      · rfl
    simp only [this]
  refine ⟨updL L st.next (.slice none 0 0), ?_, fun b hb => ⟨hb.1, hb.2.1, fun k o hk hg => ?_⟩⟩
  rotate_left
  · have hk : ATab.get ((st.next, some (.row e sz [])) :: st.tab) k = some o := hk
    rw [ATab.get_cons] at hk
    unfold updL at hg
    split at hk
    · rename_i e1
      rw [if_pos e1] at hg
      simp [vblk] at hg
    · rename_i e1
      rw [if_neg e1] at hg
      exact hb.2.2 k o hk hg
  have := conc_new (ob := .row e sz []) (v := .slice none 0 0) (x := .slice none 0 0) (av := .osl st.next) h (Below.refl _ _) (fun g hg => by simp [vblk] at hg) (fun hext => ⟨by simp, [], ownsR_nil .., by simp, by simp⟩) trivial (fun hext => ?_) (Nat.lt_succ_self _) (some t)
  · rw [hput] at this
    exact this
  · refine .osl _ _ fun sz u hk => ?_
    simp [Kx, ATab.get_cons, updL] at hk
    exact hk.2
/-- a loop's slot as a count -/
theorem weak_cut1 {st : ASt} {n nx : Nat} {env : List (Nat × AV)} {tab : ATab} (h : st.n = n ∧ (envIn st env ∧ tabIn st tab) ∧ envLt nx env ∧ tabLt nx tab) : Weak st ⟨n, env, tab, nx⟩ := weak_cut h.1 h.2.1.1 h.2.1.2 h.2.2.1 h.2.2.2
theorem weak_ren1 {st : ASt} {n nx : Nat} {env : List (Nat × AV)} {tab : ATab} (ids : List Nat) (h : ids.Nodup ∧ st.n = n ∧ (envInR st ids env ∧ tabInR st ids tab) ∧ envLt nx env ∧ tabLt nx tab) : Weak st ⟨n, env, tab, nx⟩ := weak_ren ids h.1 h.2.1 h.2.2.1.1 h.2.2.1.2 h.2.2.2.1 h.2.2.2.2
def slotN (st : ASt) (t : Nat) : Nat := match st.get t with | .c (.int _ n) => n.toNat | _ => 0

theorem wrap_in {x : Int} (h1 : -9223372036854775808 ≤ x) (h2 : x ≤ 9223372036854775807) : IntKind.i64.wrap x = x := by
  rw [IntKind.wrap_i64]; omega
theorem wrapK {k : Nat} (h : k ≤ 4611686018427387904) : IntKind.i64.wrap ((k : Int) + 1) = ((k + 1 : Nat) : Int) := by
  rw [wrap_in (by omega) (by omega)]; omega
/-- the answer of a function that gives back one value -/
def val (v : Value) : Res := ⟨.c v, [], 0⟩
theorem val_ok (v : Value) : (val v).Ok := ⟨fun id o h => (by cases h), trivial⟩
theorem gives_val {v : Value} {st : ASt} {av : AV} (h : av = .c v) : aGives (val v) st av := ⟨[], List.nodup_nil, by rw [h]; rfl, trivial⟩

theorem aGives_val {v : Value} {st : ASt} {av : AV} : aGives (val v) st av = (av = .c v) := propext ⟨fun ⟨ren, _, h, _⟩ => h.symm, gives_val⟩

/-! ### plain data as abstract values -/
abbrev eI (n : Int) : AV := .c (.int .i64 n)
abbrev eB (b : Bool) : AV := .c (.bool b)
abbrev eS (s : ByteArray) : AV := .c (.string s)
abbrev sI (l : List Int) : AV := .sl 1 (l.map fun n => [eI n])
theorem row_at {α : Type} {f : α → List AV} {l : List α} {k : Nat} (h : k < l.length) : (l.map f)[k]?.getD [] = f l[k] := by
  rw [List.getElem?_map, List.getElem?_eq_getElem h]; rfl
theorem callD {P : Program} {g : FuncId} {args : List AV} {v : Value} {K : Value → Prop} (h : ADet P g args (val v)) (hk : K v) : ∃ v, ADet P g args ⟨.c v, [], 0⟩ ∧ K v := ⟨v, h, hk⟩
theorem roundI {I : ASt → Prop} {μ : ASt → Nat} {n : Nat} {st st' : ASt} (hw : Weak st st') (hI : I st') (hm : μ st' < n) : aRound I μ n st := ⟨st', hw, hI, hm⟩
end
section
open Go.RowKit

/-- code, as it is: what it asks of a state -/
def SC (P : Program) (c : Code) (Q : Exit → ASt → Prop) (st : ASt) : Prop := ∀ (cx : Cx) (a : Act) (w : World) (L : Nat → Value), Conc cx a w st L → c.wp P (AfterC cx Q) a w
section
variable {P : Program} {x y : Code} {Q Q' : Exit → ASt → Prop} {st st' : ASt}
theorem SC.mono (h : SC P x Q st) (hq : ∀ e st, Q e st → Q' e st) : SC P x Q' st := fun cx a w L hc => Code.wp_mono (fun e a w ⟨st', L', h1, h2⟩ => ⟨st', L', hq e st' h1, h2⟩) (h cx a w L hc)
theorem aTo_mk {I : ASt → Prop} (hw : Weak st st') (h : I st') : aTo I st := ⟨st', hw, h⟩
end
/-- a contract of old -/
theorem adet_of_calls {P : Program} {f : FuncId} {args : List AV} {v : Value} (he : Enters P f)
    (h : ∀ (S : Nat → Prop) (w : World) (vs : Array Value), SOk w S → vs.size = args.length → (∀ (j : Nat) (v : Value) (av : AV), vs[j]? = some v → args[j]? = some av → RT w S v av) → Calls P f vs w fun e w' => e = .returned v ∧ Below w.heap.size w w') : ADet P f args (val v) :=
  ⟨he, fun S w vs h1 h2 h3 => (h S w vs h1 h2 h3).mono fun e w' ⟨h4, h5⟩ => ⟨v, fun _ => undef, val v, rfl, val_ok v, h4, ⟨belowX h5, fun id o h => (by cases h), fun id id' o o' g h => (by cases h), fun b hb => hb.elim⟩, .tree (.c v)⟩⟩
/-- a contract, said of values -/
theorem ADet.calls {P : Program} {f : FuncId} {args : List AV} {v : Value} (h : ADet P f args (val v)) {w : World} {vs : Array Value} (h2 : vs.size = args.length) (h3 : ∀ (j : Nat) (v : Value) (av : AV), vs[j]? = some v → args[j]? = some av → RT w (fun b => b < w.heap.size) v av) (hA : Amb w := by exact amb_any _) :
    Calls P f vs w fun e w' => e = .returned v ∧ Below w.heap.size w w' :=
  (h.2 _ w vs ⟨fun b hb => hb, hA, fun b hb => Nat.lt_of_lt_of_le hb hA.le⟩ h2 h3).mono fun e w' ⟨v', L, R, h0, _, h4, h5, h6⟩ => by
    subst h0
    obtain rfl := h6.c_inv
    exact ⟨h4, h5.below.below fun b hb => hb⟩
/-- the answer: one new slice -/
def own (e : TypeId) (sz : Nat) (rows : List (List AV)) : Res := ⟨.osl 0, [(0, some (.row e sz rows))], 1⟩
theorem own_ok (e : TypeId) (sz : Nat) (rows : List (List AV)) : (own e sz rows).Ok := by
  refine ⟨fun id o h => ?_, Nat.zero_lt_one⟩
  simp only [own, ATab.get_cons] at h
  split at h
  · rename_i e
    cases h
    subst e
    exact ⟨Nat.zero_lt_one, trivial⟩
  · cases h
theorem aGives_own {e : TypeId} {sz : Nat} {rows : List (List AV)} {st : ASt} {id : Nat} : st.tab.get id = some (.row e sz rows) → aGives (own e sz rows) st (.osl id) := fun h =>
  ⟨[id], by simp, rfl, ⟨Nat.zero_lt_one, ⟨e, sz, rows, rfl⟩, h⟩, trivial⟩
theorem retV {Post : Res → Prop} {st : ASt} {v : Value} (h : Post (val v)) : ∃ R, Post R ∧ R.Ok ∧ aGives R st (.c v) := ⟨_, h, val_ok v, gives_val rfl⟩
theorem retO {Post : Res → Prop} {st : ASt} {id : Nat} {e : TypeId} {sz : Nat} {rows : List (List AV)} (hg : st.tab.get id = some (.row e sz rows)) (h : Post (own e sz rows)) : ∃ R, Post R ∧ R.Ok ∧ aGives R st (.osl id) := ⟨_, h, own_ok .., aGives_own hg⟩
/-- a call, by what is known of its answers -/
theorem callP {u : Bool} {P : Program} {st : ASt} {g : FuncId} {args : List AV} {K : AV → ASt → Prop} {Post : Res → Prop} (h : ARel P g (args.map (dref st.tab)) Post) (hk : ∀ R, Post R → (roL args ∨ (R.r.plain ∧ R.tab.plain)) ∧ K (R.r.shift st.next) { st with tab := R.tab.shift st.next ++ st.tab, next := st.next + R.n }) : aCall u P st g args K := .inl (.inl ⟨Post, h, hk⟩)
/-- a call that gives back this -/
theorem callR {u : Bool} {P : Program} {st : ASt} {g : FuncId} {args : List AV} {K : AV → ASt → Prop} {R : Res} (h : ADet P g (args.map (dref st.tab)) R) (ho : roL args ∨ (R.r.plain ∧ R.tab.plain)) (hk : K (R.r.shift st.next) { st with tab := R.tab.shift st.next ++ st.tab, next := st.next + R.n }) : aCall u P st g args K :=
  .inl (.inl ⟨_, h, fun R' e => by subst e; exact ⟨ho, hk⟩⟩)
/-- a call that gives back one value -/
theorem callV {u : Bool} {P : Program} {st : ASt} {g : FuncId} {args : List AV} {dst : Option Nat} {K : ASt → Prop} {v : Value} (h : ADet P g (args.map (dref st.tab)) (val v)) (hk : K (st.put dst (.c v))) : aCall u P st g args (aK2 dst K) :=
  callR h (.inr ⟨trivial, trivial⟩) hk
/-- the rules of a walk, in one -/
theorem ruA : type_of% (And.intro (And.intro (And.intro (And.intro (And.intro (And.intro (And.intro @aCode_skip @aCode_regF) (And.intro @aCode_regT (And.intro @aCode_seq @aCode_cond))) (And.intro (And.intro @aCode_block @aCode_loop) (And.intro @aCode_exit (And.intro @aCode_ret @aCode_label)))) (And.intro (And.intro (And.intro @aCode_scope @aNoGoto_normal) (And.intro @aNoGoto_ret (And.intro @aNoGoto_exit @aThen_normal))) (And.intro (And.intro @aThen_exit @aThen_ret) (And.intro @aInBlock_normal (And.intro @aInBlock_ret @aInBlock_exit))))) (And.intro (And.intro (And.intro (And.intro @aCond_bool @aSkip_eq) (And.intro @aKs_eq (And.intro @aK_eq @aK2_eq))) (And.intro (And.intro @aFn_eq @aFn_clo) (And.intro @aFnB_eq (And.intro @aFnB_clo @aFnB_bfn)))) (And.intro (And.intro (And.intro @aCallF_eq @aCallB_eq) (And.intro @aCallE_eq (And.intro @aCallD_eq @aOps_nil))) (And.intro (And.intro @aOps_plain @aOps_guard) (And.intro @aDops_nil (And.intro @aDops_plain @aDops_guard)))))) (And.intro (And.intro (And.intro (And.intro (And.intro @aGuardD_eq @aGuardV_bool) (And.intro @aGuardV_undef (And.intro @aGd_tt @aGd_ff))) (And.intro (And.intro @aGd_tf @aGd_ft) (And.intro @aIf_true (And.intro @aIf_false @aSel_true)))) (And.intro (And.intro (And.intro @aSel_false @aPickK_bool) (And.intro @aOp_move (And.intro @aOp_assign @aOp_pick))) (And.intro (And.intro @aOp_load @aOp_field) (And.intro @aOp_index (And.intro @aOp_bin @aOp_un))))) (And.intro (And.intro (And.intro (And.intro @aOp_extract @aOp_conv) (And.intro @aOp_len (And.intro @aOp_append @aOp_call))) (And.intro (And.intro @aOp_makeFunc @aOp_makeFuncB) (And.intro @aOp_box (And.intro @aOp_alloc @aOp_store)))) (And.intro (And.intro (And.intro @aOp_buildSlice @aOp_makeSlice) (And.intro @aOp_build (And.intro @aDop_move @aDop_assign))) (And.intro (And.intro @aDop_pick (And.intro @aDop_load @aDop_field)) (And.intro @aDop_index (And.intro @aDop_bin @aDop_un))))))) (And.intro (And.intro (And.intro (And.intro (And.intro (And.intro @aDop_extract @aDop_conv) (And.intro @aDop_len (And.intro @aDop_call @aDop_makeFunc))) (And.intro (And.intro @aDop_build @aGives_val) (And.intro @aRet_n (And.intro @aRet_r @aRetR_n)))) (And.intro (And.intro (And.intro @aRetR_r @aPops_nil) (And.intro @aPops_plain (And.intro @aPops_guard @aPop_eq))) (And.intro (And.intro @aHeldH_nil @aHeldH_cons) (And.intro @aHeld_nil (And.intro @aHeld_take @aHeld_exec))))) (And.intro (And.intro (And.intro (And.intro @aHeld_two @aHeld_three) (And.intro @aHeldL_plain (And.intro @aHeldL_guard @aHeldT_plain))) (And.intro (And.intro @aHeldT_guard @aTakeY_eq) (And.intro @aTakeN_eq (And.intro @aTakeP_build @aTakeP_move)))) (And.intro (And.intro (And.intro @aTakeP_assign @aTakeP_pick) (And.intro @aTakeP_load (And.intro @aTakeP_field @aTakeP_index))) (And.intro (And.intro @aTakeP_fieldV (And.intro @aTakeP_bin @aTakeP_un)) (And.intro @aTakeP_extract (And.intro @aTakeP_conv @aTakeP_call)))))) (And.intro (And.intro (And.intro (And.intro (And.intro @aTakeP_clo @aHeldE_eq) (And.intro @aHeldE_guard (And.intro @aExecK_eq @aExec_assign))) (And.intro (And.intro @aExec_load @aExec_store) (And.intro @aExec_append (And.intro @aExec_call @aExec_buildSlice)))) (And.intro (And.intro (And.intro @aPure_move @aPure_assign) (And.intro @aPure_pick (And.intro @aPure_load @aPure_field))) (And.intro (And.intro @aPure_index @aPure_bin) (And.intro @aPure_un (And.intro @aPure_extract @aPure_len))))) (And.intro (And.intro (And.intro (And.intro @aPure_makeFunc @aOp_fieldV) (And.intro @aDop_fieldV (And.intro @aPure_fieldV @aOp_slice))) (And.intro (And.intro @aDop_slice @aPure_slice) (And.intro @aTakeP_slice (And.intro @aExec_makeSlice @aPure_max)))) (And.intro (And.intro (And.intro @aPure_min @aOp_max) (And.intro @aOp_min (And.intro @aDop_max @aDop_min))) (And.intro (And.intro @aExec_alloc (And.intro @aOp_nilChk @aDop_nilChk)) (And.intro @aTakeP_nilChk (And.intro @aPure_nilChk @aExec_box)))))))) :=
  (And.intro (And.intro (And.intro (And.intro (And.intro (And.intro (And.intro @aCode_skip @aCode_regF) (And.intro @aCode_regT (And.intro @aCode_seq @aCode_cond))) (And.intro (And.intro @aCode_block @aCode_loop) (And.intro @aCode_exit (And.intro @aCode_ret @aCode_label)))) (And.intro (And.intro (And.intro @aCode_scope @aNoGoto_normal) (And.intro @aNoGoto_ret (And.intro @aNoGoto_exit @aThen_normal))) (And.intro (And.intro @aThen_exit @aThen_ret) (And.intro @aInBlock_normal (And.intro @aInBlock_ret @aInBlock_exit))))) (And.intro (And.intro (And.intro (And.intro @aCond_bool @aSkip_eq) (And.intro @aKs_eq (And.intro @aK_eq @aK2_eq))) (And.intro (And.intro @aFn_eq @aFn_clo) (And.intro @aFnB_eq (And.intro @aFnB_clo @aFnB_bfn)))) (And.intro (And.intro (And.intro @aCallF_eq @aCallB_eq) (And.intro @aCallE_eq (And.intro @aCallD_eq @aOps_nil))) (And.intro (And.intro @aOps_plain @aOps_guard) (And.intro @aDops_nil (And.intro @aDops_plain @aDops_guard)))))) (And.intro (And.intro (And.intro (And.intro (And.intro @aGuardD_eq @aGuardV_bool) (And.intro @aGuardV_undef (And.intro @aGd_tt @aGd_ff))) (And.intro (And.intro @aGd_tf @aGd_ft) (And.intro @aIf_true (And.intro @aIf_false @aSel_true)))) (And.intro (And.intro (And.intro @aSel_false @aPickK_bool) (And.intro @aOp_move (And.intro @aOp_assign @aOp_pick))) (And.intro (And.intro @aOp_load @aOp_field) (And.intro @aOp_index (And.intro @aOp_bin @aOp_un))))) (And.intro (And.intro (And.intro (And.intro @aOp_extract @aOp_conv) (And.intro @aOp_len (And.intro @aOp_append @aOp_call))) (And.intro (And.intro @aOp_makeFunc @aOp_makeFuncB) (And.intro @aOp_box (And.intro @aOp_alloc @aOp_store)))) (And.intro (And.intro (And.intro @aOp_buildSlice @aOp_makeSlice) (And.intro @aOp_build (And.intro @aDop_move @aDop_assign))) (And.intro (And.intro @aDop_pick (And.intro @aDop_load @aDop_field)) (And.intro @aDop_index (And.intro @aDop_bin @aDop_un))))))) (And.intro (And.intro (And.intro (And.intro (And.intro (And.intro @aDop_extract @aDop_conv) (And.intro @aDop_len (And.intro @aDop_call @aDop_makeFunc))) (And.intro (And.intro @aDop_build @aGives_val) (And.intro @aRet_n (And.intro @aRet_r @aRetR_n)))) (And.intro (And.intro (And.intro @aRetR_r @aPops_nil) (And.intro @aPops_plain (And.intro @aPops_guard @aPop_eq))) (And.intro (And.intro @aHeldH_nil @aHeldH_cons) (And.intro @aHeld_nil (And.intro @aHeld_take @aHeld_exec))))) (And.intro (And.intro (And.intro (And.intro @aHeld_two @aHeld_three) (And.intro @aHeldL_plain (And.intro @aHeldL_guard @aHeldT_plain))) (And.intro (And.intro @aHeldT_guard @aTakeY_eq) (And.intro @aTakeN_eq (And.intro @aTakeP_build @aTakeP_move)))) (And.intro (And.intro (And.intro @aTakeP_assign @aTakeP_pick) (And.intro @aTakeP_load (And.intro @aTakeP_field @aTakeP_index))) (And.intro (And.intro @aTakeP_fieldV (And.intro @aTakeP_bin @aTakeP_un)) (And.intro @aTakeP_extract (And.intro @aTakeP_conv @aTakeP_call)))))) (And.intro (And.intro (And.intro (And.intro (And.intro @aTakeP_clo @aHeldE_eq) (And.intro @aHeldE_guard (And.intro @aExecK_eq @aExec_assign))) (And.intro (And.intro @aExec_load @aExec_store) (And.intro @aExec_append (And.intro @aExec_call @aExec_buildSlice)))) (And.intro (And.intro (And.intro @aPure_move @aPure_assign) (And.intro @aPure_pick (And.intro @aPure_load @aPure_field))) (And.intro (And.intro @aPure_index @aPure_bin) (And.intro @aPure_un (And.intro @aPure_extract @aPure_len))))) (And.intro (And.intro (And.intro (And.intro @aPure_makeFunc @aOp_fieldV) (And.intro @aDop_fieldV (And.intro @aPure_fieldV @aOp_slice))) (And.intro (And.intro @aDop_slice @aPure_slice) (And.intro @aTakeP_slice (And.intro @aExec_makeSlice @aPure_max)))) (And.intro (And.intro (And.intro @aPure_min @aOp_max) (And.intro @aOp_min (And.intro @aDop_max @aDop_min))) (And.intro (And.intro @aExec_alloc (And.intro @aOp_nilChk @aDop_nilChk)) (And.intro @aTakeP_nilChk (And.intro @aPure_nilChk @aExec_box))))))))
theorem ruB : type_of% (And.intro (And.intro (And.intro (And.intro (And.intro @ATab.get_cons (And.intro @Nat.zero_add @Nat.add_zero)) (And.intro (And.intro @List.getElem?_cons_zero.{0} @List.getElem?_cons_succ.{0}) (And.intro @List.getElem?_toArray.{0} @Option.bind_some.{0,0}))) (And.intro (And.intro (And.intro @List.map_cons.{0,0} @List.map_nil.{0,0}) (And.intro @List.length_cons.{0} @List.length_nil.{0})) (And.intro (And.intro @List.drop_succ_cons.{0} @List.drop_zero.{0}) (And.intro @List.take_succ_cons.{0} @List.take_zero.{0})))) (And.intro (And.intro (And.intro (And.intro @List.headD_cons.{0} @List.length_map.{0,0}) (And.intro @Bool.not_true @Bool.not_false)) (And.intro (And.intro @true_and @and_true) (And.intro @Option.getD_some.{0} @List.cons_append.{0}))) (And.intro (And.intro (And.intro @List.nil_append.{0} @List.append_nil.{0}) (And.intro @Nat.succ_ne_self @Nat.one_ne_zero)) (And.intro (And.intro @AV.c.injEq @Value.bool.injEq) (And.intro @Value.int.injEq @false_implies))))) (And.intro (And.intro (And.intro (And.intro (And.intro @decide_eq_true_eq @decide_eq_false_iff_not) (And.intro @Int.natCast_nonneg @Int.ofNat_lt)) (And.intro (And.intro @Int.ofNat_le @Int.toNat_natCast) (And.intro @not_false_eq_true @not_true_eq_false))) (And.intro (And.intro (And.intro @Nat.le_refl @false_and) (And.intro @and_false @Nat.succ_ne_zero)) (And.intro (And.intro @imp_self @true_implies) (And.intro @decide_true @decide_false)))) (And.intro (And.intro (And.intro (And.intro @List.set_cons_zero.{0} @List.set_cons_succ.{0}) (And.intro @Nat.zero_le @List.mem_cons.{0})) (And.intro (And.intro @List.not_mem_nil.{0} @or_false) (And.intro @List.flatMap_cons.{0,0} @List.flatMap_nil.{0,0}))) (And.intro (And.intro (And.intro @Option.map_some.{0,0} @Option.map_none.{0,0}) (And.intro @Option.isSome_some.{0} @Option.isSome_none.{0})) (And.intro (And.intro @Int.le_refl @List.take_length.{0}) (And.intro @true_or @or_true)))))) :=
  (And.intro (And.intro (And.intro (And.intro (And.intro @ATab.get_cons (And.intro @Nat.zero_add @Nat.add_zero)) (And.intro (And.intro @List.getElem?_cons_zero.{0} @List.getElem?_cons_succ.{0}) (And.intro @List.getElem?_toArray.{0} @Option.bind_some.{0,0}))) (And.intro (And.intro (And.intro @List.map_cons.{0,0} @List.map_nil.{0,0}) (And.intro @List.length_cons.{0} @List.length_nil.{0})) (And.intro (And.intro @List.drop_succ_cons.{0} @List.drop_zero.{0}) (And.intro @List.take_succ_cons.{0} @List.take_zero.{0})))) (And.intro (And.intro (And.intro (And.intro @List.headD_cons.{0} @List.length_map.{0,0}) (And.intro @Bool.not_true @Bool.not_false)) (And.intro (And.intro @true_and @and_true) (And.intro @Option.getD_some.{0} @List.cons_append.{0}))) (And.intro (And.intro (And.intro @List.nil_append.{0} @List.append_nil.{0}) (And.intro @Nat.succ_ne_self @Nat.one_ne_zero)) (And.intro (And.intro @AV.c.injEq @Value.bool.injEq) (And.intro @Value.int.injEq @false_implies))))) (And.intro (And.intro (And.intro (And.intro (And.intro @decide_eq_true_eq @decide_eq_false_iff_not) (And.intro @Int.natCast_nonneg @Int.ofNat_lt)) (And.intro (And.intro @Int.ofNat_le @Int.toNat_natCast) (And.intro @not_false_eq_true @not_true_eq_false))) (And.intro (And.intro (And.intro @Nat.le_refl @false_and) (And.intro @and_false @Nat.succ_ne_zero)) (And.intro (And.intro @imp_self @true_implies) (And.intro @decide_true @decide_false)))) (And.intro (And.intro (And.intro (And.intro @List.set_cons_zero.{0} @List.set_cons_succ.{0}) (And.intro @Nat.zero_le @List.mem_cons.{0})) (And.intro (And.intro @List.not_mem_nil.{0} @or_false) (And.intro @List.flatMap_cons.{0,0} @List.flatMap_nil.{0,0}))) (And.intro (And.intro (And.intro @Option.map_some.{0,0} @Option.map_none.{0,0}) (And.intro @Option.isSome_some.{0} @Option.isSome_none.{0})) (And.intro (And.intro @Int.le_refl @List.take_length.{0}) (And.intro @true_or @or_true))))))
theorem ruW : type_of% (And.intro (And.intro (And.intro (And.intro @ATab.get_cons @and_true) (And.intro @true_and (And.intro @AV.c.injEq @Value.int.injEq))) (And.intro (And.intro @Value.bool.injEq @Bool.not_true) (And.intro @Bool.not_false (And.intro @Nat.succ_ne_self @Nat.one_ne_zero)))) (And.intro (And.intro (And.intro @Nat.succ_ne_zero @not_true_eq_false) (And.intro @not_false_eq_true (And.intro @Int.natCast_nonneg @List.map_cons.{0,0}))) (And.intro (And.intro @List.map_nil.{0,0} (And.intro @List.cons_append.{0} @List.nil_append.{0})) (And.intro @List.append_nil.{0} (And.intro @decide_true @decide_false))))) :=
  (And.intro (And.intro (And.intro (And.intro @ATab.get_cons @and_true) (And.intro @true_and (And.intro @AV.c.injEq @Value.int.injEq))) (And.intro (And.intro @Value.bool.injEq @Bool.not_true) (And.intro @Bool.not_false (And.intro @Nat.succ_ne_self @Nat.one_ne_zero)))) (And.intro (And.intro (And.intro @Nat.succ_ne_zero @not_true_eq_false) (And.intro @not_false_eq_true (And.intro @Int.natCast_nonneg @List.map_cons.{0,0}))) (And.intro (And.intro @List.map_nil.{0,0} (And.intro @List.cons_append.{0} @List.nil_append.{0})) (And.intro @List.append_nil.{0} (And.intro @decide_true @decide_false)))))
end
section
open Go.RowKit
theorem enters_of {P : Program} {f : FuncId} {fn : Func} {c : Code} (hf : P.funcs[f]? = some fn) (hb : fn.body = some c) (hname : (fn.name == "runtime.NumGoroutine") = false) : Enters P f := fun args w => by
  have : ¬ fn.name = "runtime.NumGoroutine" := by simpa using hname
  simp [callFunc, Sem.run_bind, hf, this, hb]
theorem rtc {w : World} {S : Nat → Prop} {v u : Value} (h : RT w S v (.c u)) : v = u := by cases h; rfl
theorem callT {u : Bool} {P : Program} {st : ASt} {g : FuncId} {args : List AV} {K : AV → ASt → Prop} {r : AV} (h : ADet P g (args.map (dref st.tab)) ⟨r, [], 0⟩) (ho : roL args ∨ r.plain) (hk : K (r.shift st.next) st) : aCall u P st g args K :=
  callR h (ho.imp id fun h => ⟨h, trivial⟩) hk
theorem take_snoc {α β : Type} (f : α → β) (l : List α) {k : Nat} (h : k < l.length) : (l.take (k + 1)).map f = (l.take k).map f ++ [f l[k]] := by
  rw [List.take_add_one, List.getElem?_eq_getElem h, List.map_append]
  rfl
theorem callO {u : Bool} {P : Program} {st : ASt} {g : FuncId} {args : List AV} {K : AV → ASt → Prop} {e : TypeId} {sz : Nat} {rows : List (List AV)} (h : ADet P g (args.map (dref st.tab)) (own e sz rows)) (ho : roL args ∨ ∀ row ∈ rows, ∀ av ∈ row, av.plain) (hk : K (.osl st.next) ⟨st.n, st.env, (st.next, some (.row e sz rows)) :: st.tab, st.next + 1⟩) : aCall u P st g args K :=
  callR h (ho.imp id fun h => ⟨trivial, h, trivial⟩) (by
    have e1 : (own e sz rows).r.shift st.next = .osl st.next := by simp [own, AV.shift]
    have e2 : (own e sz rows).tab.shift st.next = [(st.next, some (.row e sz rows))] := by simp [own, ATab.shift, AObj.shift]
    rw [e1, e2]
    exact hk)
theorem ints_plain {l : List Int} : ∀ row ∈ l.map (fun n => [eI n]), ∀ av ∈ row, av.plain := fun row hr av ha => by
  obtain ⟨n, _, rfl⟩ := List.mem_map.1 hr
  simp at ha
  subst ha
  trivial
theorem fold_snoc {α β : Type} (f : β → α → β) (b : β) (l : List α) {k : Nat} (h : k < l.length) : (l.take (k + 1)).foldl f b = f ((l.take k).foldl f b) l[k] := by
  rw [List.take_add_one, List.getElem?_eq_getElem h, List.foldl_append]
  rfl
/-- what is a value of the one is one of the other -/
inductive Fits0 : AV → AV → Prop
  | refl (a : AV) : Fits0 a a
  | nil (sz : Nat) : Fits0 (.c (.slice none 0 0)) (.sl sz [])
def RowFit : List AV → List AV → Prop
  | [], [] => True
  | a :: l, b :: l' => Fits0 a b ∧ RowFit l l'
  | _, _ => False
def RowsFit : List (List AV) → List (List AV) → Prop
  | [], [] => True
  | a :: l, b :: l' => RowFit a b ∧ RowsFit l l'
  | _, _ => False
inductive Fits1 : AV → AV → Prop
  | refl (a : AV) : Fits1 a a
  | nil (sz : Nat) : Fits1 (.c (.slice none 0 0)) (.sl sz [])
  | rows {sz : Nat} {r r' : List (List AV)} (h : RowsFit r r') : Fits1 (.sl sz r) (.sl sz r')
def FitsL : List AV → List AV → Prop
  | [], [] => True
  | a :: l, b :: l' => Fits1 a b ∧ FitsL l l'
  | _, _ => False
inductive FitsA : AV → AV → Prop
  | one {a b : AV} (h : Fits1 a b) : FitsA a b
  | agg {l l' : List AV} (h : FitsL l l') : FitsA (.agg l) (.agg l')
def FitsAs : List AV → List AV → Prop
  | [], [] => True
  | a :: l, b :: l' => FitsA a b ∧ FitsAs l l'
  | _, _ => False
theorem Fits0.rt {w : World} {S : Nat → Prop} {v : Value} {a b : AV} (h : Fits0 a b) (hr : RT w S v a) : RT w S v b := by
  cases h with
  | refl => exact hr
  | nil sz =>
    rw [rtc hr]
    exact .sl none 0 0 sz [] 0 0 (fun _ _ => undef) rfl (Nat.le_refl _) (by omega) (fun h => by omega) (by simp) (fun h => by omega) (by simp) (by simp)
theorem RowFit.spec : ∀ {l l' : List AV}, RowFit l l' → l.length = l'.length ∧ ∀ (j : Nat) (b : AV), l'[j]? = some b → ∃ a, l[j]? = some a ∧ Fits0 a b
  | [], [], _ => ⟨rfl, fun j b h => by simp at h⟩
  | a :: l, b :: l', h => by
    obtain ⟨h1, h2⟩ := RowFit.spec h.2
    refine ⟨by simp [h1], fun j b' h3 => ?_⟩
    cases j with
    | zero =>
      simp at h3
      subst h3
      exact ⟨a, rfl, h.1⟩
    | succ j => exact h2 j b' (by simpa using h3)
  | [], _ :: _, h => h.elim
  | _ :: _, [], h => h.elim
theorem RowsFit.spec : ∀ {l l' : List (List AV)}, RowsFit l l' → l.length = l'.length ∧ ∀ (j : Nat) (b : List AV), l'[j]? = some b → ∃ a, l[j]? = some a ∧ RowFit a b
  | [], [], _ => ⟨rfl, fun j b h => by simp at h⟩
  | a :: l, b :: l', h => by
    obtain ⟨h1, h2⟩ := RowsFit.spec h.2
    refine ⟨by simp [h1], fun j b' h3 => ?_⟩
    cases j with
    | zero =>
      simp at h3
      subst h3
      exact ⟨a, rfl, h.1⟩
    | succ j => exact h2 j b' (by simpa using h3)
  | [], _ :: _, h => h.elim
  | _ :: _, [], h => h.elim
theorem Fits1.rt {w : World} {S : Nat → Prop} {v : Value} {a b : AV} (h : Fits1 a b) (hr : RT w S v a) : RT w S v b := by
  cases h with
  | refl => exact hr
  | nil sz => exact (Fits0.nil sz).rt hr
  | rows h =>
    rename_i sz r r'
    obtain ⟨hl, hx⟩ := h.spec
    cases hr with
    | sl A n cap sz rows b o U hn hc hm hA hs hcell hone hr =>
      have key : ∀ i j row' av', r'[i]? = some row' → row'[j]? = some av' → ∃ row av, r[i]? = some row ∧ row[j]? = some av ∧ Fits0 av av' := fun i j row' av' h1 h2 => by
        obtain ⟨row, h3, h4⟩ := hx i row' h1
        obtain ⟨av, h5, h6⟩ := h4.spec.2 j av' h2
        exact ⟨row, av, h3, h5, h6⟩
      refine .sl A n cap sz r' b o U (hn.trans hl) hc hm hA (fun row' hrow => ?_) (fun h0 i j row' av' h1 h2 => ?_) (fun i j row' av' h1 h2 => ?_) (fun i j row' av' h1 h2 => ?_)
      · obtain ⟨i, hi⟩ := List.getElem?_of_mem hrow
        obtain ⟨row, h3, h4⟩ := hx i row' hi
        rw [← h4.spec.1]
        exact hs row (List.mem_of_getElem? h3)
      · obtain ⟨row, av, h3, h4, _⟩ := key i j row' av' h1 h2
        exact hcell h0 i j row av h3 h4
      · obtain ⟨row, av, h3, h4, _⟩ := key i j row' av' h1 h2
        exact hone i j row av h3 h4
      · obtain ⟨row, av, h3, h4, h5⟩ := key i j row' av' h1 h2
        exact h5.rt (hr i j row av h3 h4)
theorem FitsL.spec : ∀ {l l' : List AV}, FitsL l l' → l.length = l'.length ∧ ∀ (j : Nat) (a b : AV), l[j]? = some a → l'[j]? = some b → Fits1 a b
  | [], [], _ => ⟨rfl, fun j a b h => by simp at h⟩
  | a :: l, b :: l', h => by
    obtain ⟨h1, h2⟩ := FitsL.spec h.2
    refine ⟨by simp [h1], fun j a' b' h3 h4 => ?_⟩
    cases j with
    | zero =>
      simp at h3 h4
      subst h3 h4
      exact h.1
    | succ j => exact h2 j a' b' (by simpa using h3) (by simpa using h4)
  | [], _ :: _, h => h.elim
  | _ :: _, [], h => h.elim
theorem FitsA.rt {w : World} {S : Nat → Prop} {v : Value} {a b : AV} (h : FitsA a b) (hr : RT w S v a) : RT w S v b := by
  cases h with
  | one h => exact h.rt hr
  | agg h =>
    obtain ⟨hl, hx⟩ := h.spec
    cases hr with
    | agg xs cs hn hc =>
      refine .agg xs _ (hn.trans hl) fun j x av h1 h2 => ?_
      rename_i l l'
      have hj : j < l'.length := (List.getElem?_eq_some_iff.1 h2).1
      obtain ⟨a, ha⟩ : ∃ a, l[j]? = some a := ⟨_, List.getElem?_eq_getElem (by omega)⟩
      exact (hx j a av ha h2).rt (hc j x a h1 ha)
theorem FitsAs.spec : ∀ {l l' : List AV}, FitsAs l l' → l.length = l'.length ∧ ∀ (j : Nat) (a b : AV), l[j]? = some a → l'[j]? = some b → FitsA a b
  | [], [], _ => ⟨rfl, fun j a b h => by simp at h⟩
  | a :: l, b :: l', h => by
    obtain ⟨h1, h2⟩ := FitsAs.spec h.2
    refine ⟨by simp [h1], fun j a' b' h3 h4 => ?_⟩
    cases j with
    | zero =>
      simp at h3 h4
      subst h3 h4
      exact h.1
    | succ j => exact h2 j a' b' (by simpa using h3) (by simpa using h4)
  | [], _ :: _, h => h.elim
  | _ :: _, [], h => h.elim
theorem ADet.fits {P : Program} {f : FuncId} {args args' : List AV} {R : Res} (h : ADet P f args' R) (hf : FitsAs args args') : ADet P f args R :=
  ⟨h.1, fun S w vs h1 h2 h3 => h.2 S w vs h1 (h2.trans hf.spec.1) fun j v av h4 h5 => by
    have hj : j < args'.length := (List.getElem?_eq_some_iff.1 h5).1
    obtain ⟨a, ha⟩ : ∃ a, args[j]? = some a := ⟨_, List.getElem?_eq_getElem (by rw [hf.spec.1]; exact hj)⟩
    exact (hf.spec.2 j a av ha h5).rt (h3 j v a h4 ha)⟩
theorem ARel.fits {P : Program} {f : FuncId} {args args' : List AV} {Post : Res → Prop} (h : ARel P f args' Post) (hf : FitsAs args args') : ARel P f args Post :=
  ⟨h.1, fun S w vs h1 h2 h3 => h.2 S w vs h1 (h2.trans hf.spec.1) fun j v av h4 h5 => by
    have hj : j < args'.length := (List.getElem?_eq_some_iff.1 h5).1
    obtain ⟨a, ha⟩ : ∃ a, args[j]? = some a := ⟨_, List.getElem?_eq_getElem (by rw [hf.spec.1]; exact hj)⟩
    exact (hf.spec.2 j a av ha h5).rt (h3 j v a h4 ha)⟩
section
variable {P : Program} {w : World} {d : Nat} {xs ys : Array Value} {f : Field} {fs : List Field}
end
end
section
open Go.RowKit

section
variable {P : Program} {cx : Cx} {a : Act} {w w' w'' : World} {st : ASt} {tab tab' tab'' : ATab} {L L' L'' : Nat → Value} {nx nx' nx'' : Nat}
theorem Fr.refl : Fr cx w tab L nx w tab L nx := ⟨Ext.refl .., Nat.le_refl _, fun _ _ _ => rfl, fun id o g h1 h2 _ => ⟨id, o, h1, h2⟩, Nat.le_refl _⟩
theorem Fr.trans (h : Fr cx w tab L nx w' tab' L' nx') (k : Fr cx w' tab' L' nx' w'' tab'' L'' nx'') : Fr cx w tab L nx w'' tab'' L'' nx'' :=
  ⟨⟨fun b hb => (k.ext.blk b (h.ext.sub b hb)).trans (h.ext.blk b hb), fun b hb => k.ext.sub b (h.ext.sub b hb), fun id p hid hp => h.ext.loc id p hid (k.ext.loc id p (Nat.lt_of_lt_of_le hid h.next) hp)⟩,
   Nat.le_trans h.size k.size,
   fun j hj hn => (k.keep j (Nat.lt_of_lt_of_le hj h.size) fun id o h1 h2 => (h.young id o j h1 h2 hj).elim fun id2 ⟨o2, h3, h4⟩ => hn id2 o2 h3 h4).trans (h.keep j hj hn),
   fun id o g h1 h2 hg => (k.young id o g h1 h2 (Nat.lt_of_lt_of_le hg h.size)).elim fun id2 ⟨o2, h3, h4⟩ => h.young id2 o2 g h3 h4 hg,
   Nat.le_trans h.next k.next⟩
theorem put_tab (st : ASt) (d : Option Nat) (av : AV) : (st.put d av).tab = st.tab := by cases d <;> rfl
theorem put_next (st : ASt) (d : Option Nat) (av : AV) : (st.put d av).next = st.next := by cases d <;> rfl
theorem fr_merge (hy : ∀ id o, tab.get id = some o → id < nx) (hb : Below w.heap.size w w') (hold : ∀ id, id < nx → tab'.get id = tab.get id ∧ L' id = L id) (hnew : ∀ id o g, nx ≤ id → tab'.get id = some o → vblk (L' id) = some g → w.heap.size ≤ g) (hn : nx ≤ nx') : Fr cx w tab L nx w' tab' L' nx' :=
  ⟨ext_merge hb hold hy hnew, hb.size, fun k hk _ => hb.block k hk, fun id o g h1 h2 hg => by
    rcases Nat.lt_or_ge id nx with hlt | hge
    · exact ⟨id, o, by rw [← (hold id hlt).1]; exact h1, by rw [← (hold id hlt).2]; exact h2⟩
    · exact absurd (hnew id o g hge h1 h2) (by omega), hn⟩
theorem fr_new (h : Conc cx a w st L) (hb : Below w.heap.size w w') {v : Value} {ob : AObj} (hnew : ∀ g, vblk v = some g → w.heap.size ≤ g) : Fr cx w st.tab L st.next w' ((st.next, some ob) :: st.tab) (updL L st.next v) (st.next + 1) :=
  fr_merge (fun id o hid => (h.young id o hid).1) hb (fun id hid => by unfold updL; rw [ATab.get_cons, if_neg (by omega), if_neg (by omega)]; exact ⟨rfl, rfl⟩)
    (fun id o g h1 h2 h3 => by
      rw [ATab.get_cons] at h2
      unfold updL at h3
      split at h2
      · rename_i e
        rw [if_pos e] at h3
        exact hnew g h3
      · have := (h.young id o h2).1
        omega) (Nat.le_succ _)
theorem fr_upd {id : Nat} {o o' : AObj} (hid : st.tab.get id = some o) (hsz : o'.sz = o.sz) (hs : w'.heap.size = w.heap.size) (hb : ∀ k, vblk (L id) ≠ some k → w'.heap[k]? = w.heap[k]?) : Fr cx w st.tab L st.next w' ((id, some o') :: st.tab) L st.next := by
  have hget : ∀ k ok, ATab.get ((id, some o') :: st.tab) k = some ok → ∃ ok', st.tab.get k = some ok' ∧ ok.sz = ok'.sz := fun k ok hk => by
    rw [ATab.get_cons] at hk
    split at hk
    · rename_i e
      cases hk
      exact ⟨o, by rw [e]; exact hid, hsz⟩
    · exact ⟨ok, hk, rfl⟩
  refine ⟨⟨fun b hb' => hb b (hb'.2.2 id o hid), fun b hb' => ⟨by rw [hs]; exact hb'.1, hb'.2.1, fun k ok hk => ?_⟩, fun k p _ hk => ?_⟩, by rw [hs]; exact Nat.le_refl _, fun k hk hn => hb k (hn id o hid), fun k ok g h1 h2 _ => ?_, Nat.le_refl _⟩
  · obtain ⟨ok', h1, _⟩ := hget k ok hk
    exact hb'.2.2 k ok' h1
  · unfold Kx at *
    cases ho : ATab.get ((id, some o') :: st.tab) k with
    | none => simp [ho] at hk
    | some ok =>
      obtain ⟨ok', h1, h2⟩ := hget k ok ho
      rw [h1]
      simpa [ho, h2] using hk
  · obtain ⟨ok', h3, _⟩ := hget k ok h1
    exact ⟨k, ok', h3, h2⟩
theorem fr_frz1 (id : Nat) : Fr cx w st.tab L st.next w (frz1 st id).tab L (frz1 st id).next := by
  unfold frz1
  split
  · rename_i e sz rows hid
    have hget : ∀ k ok, ATab.get ((id, none) :: frzTab id sz rows st.tab) k = some ok → ∃ ok', st.tab.get k = some ok' ∧ ok.sz = ok'.sz := fun k ok hk => by
      rw [ATab.get_cons, frzTab_get] at hk
      split at hk
      · cases hk
      · cases hg : st.tab.get k with
        | none => simp [hg] at hk
        | some o' =>
          simp [hg] at hk
          exact ⟨o', rfl, by rw [← hk, frz_sz]⟩
    refine ⟨⟨fun _ _ => rfl, fun b hb' => ⟨hb'.1, hb'.2.1, fun k ok hk => ?_⟩, fun k p _ hk => ?_⟩, Nat.le_refl _, fun k hk hn => rfl, fun k ok g h1 h2 _ => ?_, Nat.le_refl _⟩
    · obtain ⟨ok', h1, _⟩ := hget k ok hk
      exact hb'.2.2 k ok' h1
    · unfold Kx at *
      cases ho : ATab.get ((id, none) :: frzTab id sz rows st.tab) k with
      | none => simp [ho] at hk
      | some ok =>
        obtain ⟨ok', h1, h2⟩ := hget k ok ho
        rw [h1]
        simpa [ho, h2] using hk
    · obtain ⟨ok', h3, _⟩ := hget k ok h1
      exact ⟨k, ok', h3, h2⟩
  · exact Fr.refl
theorem fr_frzs : ∀ (ids : List Nat) {st : ASt}, Fr cx w st.tab L st.next w (frzs st ids).tab L (frzs st ids).next
  | [], _ => Fr.refl
  | id :: ids, st => (fr_frz1 id).trans (fr_frzs ids (st := frz1 st id))
theorem fr_app (h : Conc cx a w st L) {v v' : Value} {oid : Option Nat} {ob : AObj} (hg : w.grownBy w' v.ownBlock) (hv : vblk v' = v.ownBlock ∨ vblk v' = some w.heap.size)
    (hown : ∀ g, v.ownBlock = some g → ∃ id, oid = some id ∧ vblk (L id) = some g) (hoid : ∀ id, oid = some id → ∃ o, st.tab.get id = some o) : Fr cx w st.tab L st.next w' (appTab st.tab st.next oid ob) (updL L st.next v') (st.next + 1) := by
  have hnot : ∀ k, (∀ id o, st.tab.get id = some o → vblk (L id) ≠ some k) → some k ≠ v.ownBlock := fun k hn e => by
    obtain ⟨id, h1, h2⟩ := hown k e.symm
    obtain ⟨o, h3⟩ := hoid id h1
    exact hn id o h3 h2
  have hget : ∀ k ok, (appTab st.tab st.next oid ob).get k = some ok → k = st.next ∨ (k < st.next ∧ st.tab.get k = some ok) := fun k ok hk => by
    rw [appTab_get] at hk
    split at hk
    · exact .inl (by assumption)
    · split at hk
      · cases hk
      · exact .inr ⟨(h.young k ok hk).1, hk⟩
  refine ⟨⟨fun b hb => hg.block b hb.1 (hnot b hb.2.2), fun b hb => ⟨Nat.lt_of_lt_of_le hb.1 hg.size, hb.2.1, fun k ok hk => ?_⟩, fun k p hlt hk => ?_⟩, hg.size, fun k hk hn => hg.block k hk (hnot k hn), fun k ok g h1 h2 hlt => ?_, Nat.le_succ _⟩
  · unfold updL
    rcases hget k ok hk with rfl | ⟨hlt, ho⟩
    · rw [if_pos rfl]
      rcases hv with hv | hv
      · rw [hv]
        exact fun e => hnot b hb.2.2 e.symm
      · rw [hv]
        intro e
        cases e
        exact absurd hb.1 (by omega)
    · rw [if_neg (by omega)]
      exact hb.2.2 k ok ho
  · unfold Kx updL at *
    rw [if_neg (by omega)] at hk
    cases ho : (appTab st.tab st.next oid ob).get k with
    | none => simp [ho] at hk
    | some ok =>
      rcases hget k ok ho with rfl | ⟨_, h1⟩
      · omega
      · rw [h1]
        rw [ho] at hk
        exact hk
  · unfold updL at h2
    rcases hget k ok h1 with rfl | ⟨hlt', ho⟩
    · rw [if_pos rfl] at h2
      rcases hv with hv | hv
      · rw [hv] at h2
        obtain ⟨id, h3, h4⟩ := hown g h2
        obtain ⟨o, h5⟩ := hoid id h3
        exact ⟨id, o, h5, h4⟩
      · rw [hv] at h2
        cases h2
        omega
    · rw [if_neg (by omega)] at h2
      exact ⟨k, ok, ho, h2⟩
/-- what follows an operation, and what stays -/
abbrev AfterF (cx : Cx) (a : Act) (w : World) (st : ASt) (L : Nat → Value) (K : ASt → Prop) : Act → World → Prop := fun a' w' => ∃ st' L', K st' ∧ Conc cx a' w' st' L' ∧ Fr cx w st.tab L st.next w' st'.tab L' st'.next ∧ a'.defers = a.defers
theorem put_defers (a : Act) (d : Option Nat) (v : Value) : (a.put d v).defers = a.defers := by cases d <;> rfl
theorem pure_wpF {o : Oper} {K : ASt → Prop} {Q : Exit → Act → World → Prop} (h : Conc cx a w st L) (hp : aPure P st.tab (aEv st) o.op (aK st o.dst K)) : o.wp P a w (AfterF cx a w st L K) Q := by
  obtain ⟨v, av, h1, h2, h3, h4, _⟩ := pure_ok h.lay (fun id o hid => (h.young id o hid).2) (eval_ok h) hp
  exact wp_value (h4 w (Below.refl _ _)) ⟨_, L, h1, conc_pure h h2 h3 o.dst, (by rw [put_tab, put_next]; exact Fr.refl), put_defers _ _ _⟩
/-- an operation that may stand in a round -/
def fOp (o : Oper) : Bool := match o.op with
  | .slice .. => false
  | .defer _ => false
  | _ => true
theorem op_okF {o : Oper} {K : ASt → Prop} {Q : Exit → Act → World → Prop} (h : Conc cx a w st L) (hp : aOp P o K st) (hf : fOp o = true) : o.wp P a w (AfterF cx a w st L K) Q := by
  obtain ⟨dst, op, ty, pos, aft, gd⟩ := o
  unfold aOp at hp
  simp only at hp
  split at hp
  · rename_i t x
    obtain ⟨h1, h2⟩ := hp
    have he := eval_ok h x
    obtain ⟨h3, h4⟩ := box_ok (P := P) (t := t) h he.1 he.2 h1 dst
    exact wp_value (by simp [execOp, Sem.run_bind, h3]) ⟨_, _, h2, h4, (by rw [put_tab, put_next]; exact fr_new h ((Below.refl _ _).alloc (Nat.le_refl _) _) (fun g hg => by simp [vblk] at hg; omega)), put_defers _ _ _⟩
  · rename_i t
    split at hp
    · rename_i z hz
      obtain ⟨h1, h2⟩ := hp
      obtain ⟨h3, h4⟩ := box_ok (P := P) (t := t) (av := .c z) h (.tree (.c z)) trivial h1 dst
      exact wp_value (by simp [execOp, Sem.run_bind, alloc_run hz, h3]) ⟨_, _, h2, h4, (by rw [put_tab, put_next]; exact fr_new h ((Below.refl _ _).alloc (Nat.le_refl _) _) (fun g hg => by simp [vblk] at hg; omega)), put_defers _ _ _⟩
    · exact hp.elim
  · rename_i t p x
    unfold aStore at hp
    split at hp
    · rename_i id i j hpe
      split at hp
      · rename_i ty cells hid
        obtain ⟨rfl, h0, h1, h2, h3, h4⟩ := hp
        have hpv := (eval_ok h p).1
        rw [hpe] at hpv
        have hx := eval_ok h x
        obtain ⟨w', h5, h6, h7, h8⟩ := store_box_ok h hpv hid hx.1 hx.2 h0 h1 h2 h3 dst
        exact wp_skip' (by simp [execOp, Sem.run_bind, h5]) ⟨_, _, h4, h6, (by rw [put_tab, put_next]; exact fr_upd hid (by simp only [AObj.sz, List.length_append, List.length_take, List.length_drop]; omega) h7 h8), put_defers _ _ _⟩
      · rename_i e sz rows hid
        obtain ⟨hi, h0, h1, h2, h3, h3', h4⟩ := hp
        have hpv := (eval_ok h p).1
        rw [hpe] at hpv
        have hx := eval_ok h x
        obtain ⟨w', h5, h6, h7, h8⟩ := store_row_ok h hpv hid hx.1 hx.2 hi h0 h1 h2 h3 h3' dst
        exact wp_skip' (by simp [execOp, Sem.run_bind, h5]) ⟨_, _, h4, h6, (by rw [put_tab, put_next]; exact fr_upd hid rfl h7 h8), put_defers _ _ _⟩
      · exact hp.elim
    · exact hp.elim
  · rename_i t n parts
    unfold aBuildSlice at hp
    have hfr := fr_frzs (cx := cx) (w := w) (L := L) (st := st) (ownIds (parts.toList.flatMap fun (p : Nat × Operand) => aCells (aEv st p.2)))
    replace h := conc_frzs (ownIds (parts.toList.flatMap fun (p : Nat × Operand) => aCells (aEv st p.2))) h
    unfold aBuildSlice1 at hp
    split at hp
    · rename_i e sz by_ ht
      obtain ⟨⟨h1, rfl, h3, h5⟩, h6⟩ := hp
      obtain ⟨v', w', L', h7, h8, hb, rfl, hv⟩ := buildSlice_ok h ht h1 h3 h5 dst
      refine wp_value ?_ ⟨_, _, h6, h8, (by rw [put_tab, put_next]; exact hfr.trans (fr_new h hb fun g hg => by rw [hv] at hg; cases hg; exact Nat.le_refl _)), put_defers _ _ _⟩
      simp only [Array.toArray_toList] at h7
      simp [execOp, Sem.run_bind]
      simp at h7
      simp [h7]
    · exact hp.elim
  · rename_i t l c
    unfold aMake at hp
    split at hp
    · rename_i e sz by_ k1 n k2 m ht hl hc
      split at hp
      · rename_i z hz
        obtain ⟨⟨rfl, h1, h2, h3, h4⟩, h5⟩ := hp
        have hl' := (eval_ok h l).1
        have hc' := (eval_ok h c).1
        rw [hl] at hl'
        rw [hc] at hc'
        obtain ⟨v', w', L', h6, h7, hb, rfl, hv⟩ := make_ok (k1 := k1) (k2 := k2) h ht hz h1 h2 h3 h4 dst
        exact wp_value (by simp [execOp, Sem.run_bind, hl'.c_inv, hc'.c_inv, h6]) ⟨_, _, h5, h7, (by rw [put_tab, put_next]; exact fr_new h hb fun g hg => by rw [hv] at hg; cases hg; exact Nat.le_refl _), put_defers _ _ _⟩
      · exact hp.elim
    · exact hp.elim
  · rename_i t parts
    obtain ⟨v, cs, h1, h2, h3, h4⟩ := build_wp h hp
    refine wp_value ?_ ⟨_, _, h4, conc_pure h h1 h2 dst, (by rw [put_tab, put_next]; exact Fr.refl), put_defers _ _ _⟩
    simp [execOp, Sem.run_bind, h3 w]
  · cases hf
  · rename_i c
    obtain ⟨callee, args, argTypes⟩ := c
    simp only at hp
    split at hp
    · split at hp
      · rename_i x y t t' h1 h2
        obtain rfl : args = #[x, y] := by cases args; simp_all
        obtain rfl : argTypes = #[t, t'] := by cases argTypes; simp_all
        obtain ⟨rfl, hp⟩ := hp
        unfold aAppend at hp
        split at hp
        · rename_i e sz by_ ht
          split at hp
          · rename_i oid rows rows2 hx hy
            obtain ⟨⟨h3, h4⟩, h5⟩ := hp
            obtain ⟨v', w', L', h6, h7, hg, rfl, hv, hown⟩ := append_ok (ty := ty) h (eval_ok h x).1 (eval_ok h y).1 ht hx hy (by simpa [maxLen] using h3) h4 dst
            have hoid : ∀ id, oid = some id → ∃ o, st.tab.get id = some o := fun id hid => by
              subst hid
              unfold aDst at hx
              split at hx
              · rename_i id' hid'
                split at hx
                · rename_i e' sz' rows' hget
                  split at hx
                  · cases hx
                    exact ⟨_, hget⟩
                  · cases hx
                · cases hx
              · cases hx
              · cases hx
            exact wp_value (by simp [execOp, Sem.run_bind, resolve, invoke, builtin, h6]) ⟨_, _, h5, h7, (by rw [put_tab, put_next]; exact fr_app h hg hv hown hoid), put_defers _ _ _⟩
          · exact hp.elim
        · exact hp.elim
      · exact hp.elim
    · rename_i f
      obtain ⟨g, zs, avs, hrun0, hsz, hlt, hp⟩ := aFnB_inv h hp
      have hent : Enters P g := by
        rcases hp with (⟨R, hd, _⟩ | ⟨hd, _⟩) | ⟨_, (⟨_, _, _, _, _, _, _, _, hd, _⟩ | ⟨_, _, _, _, _, _, _, _, _, hd, _⟩ | ⟨hd, _⟩) | ⟨_, (⟨R, hd, _⟩ | ⟨hd, _⟩)⟩⟩
        · exact hd.1
        · exact hd
        · exact hd.1
        · exact hd.1
        · exact hd
        · exact hd.1
        · exact hd
      unfold Oper.wp
      rw [hrun0 hent _ argTypes rfl]
      show Calls P g zs w _
      have hargs : zs.size = avs.length ∧ ∀ (j : Nat) (v : Value) (av : AV), zs[j]? = some v → avs[j]? = some av → RVx cx w st.tab L v av := ⟨hsz, fun j v av h1 h2 => (hlt j v av h1 h2).1⟩
      rcases hp with hp | ⟨_, hp | ⟨ids, hp⟩⟩
      · refine (call_ok h hargs.1 hargs.2 hp dst).mono ?_
        rintro e w' ⟨v, av, st', L', rfl, h1, h2, hb, hold, hnew, hnx⟩
        exact ⟨_, _, h1, h2, (by rw [put_tab, put_next]; exact fr_merge (fun id o hid => (h.young id o hid).1) hb hold hnew hnx), put_defers _ _ _⟩
      rotate_left
      · obtain ⟨h3, h4⟩ := frzAVs_ok ids h hlt
        have hz := conc_frzs ids h
        refine (call_ok hz (by rw [h3]; exact hargs.1) (fun j v av h5 h6 => (h4 j v av h5 h6).1) hp dst).mono ?_
        rintro e w' ⟨v, av, st', L', rfl, h1, h2, hb, hold, hnew, hnx⟩
        exact ⟨_, _, h1, h2, (by rw [put_tab, put_next]; exact (fr_frzs ids).trans (fr_merge (fun id o hid => (hz.young id o hid).1) hb hold hnew hnx)), put_defers _ _ _⟩
      · refine (updM_ok h hargs.1 hlt hp dst).mono ?_
        rintro e w' ⟨v, av, st', L', rfl, h1, h2, h3⟩
        exact ⟨_, _, h1, h2, (by rw [put_tab, put_next]; exact h3), put_defers _ _ _⟩
    · exact pure_wpF h hp
  · exact pure_wpF h hp
end
end
section
open Go.RowKit

section
variable {P : Program} {cx : Cx} {a : Act} {w w' : World} {st : ASt} {L L' : Nat → Value} {l0 n : Nat}
/-- in a round an operation goes as everywhere -/
theorem wpIn_of_wp {o : Oper} {next : Act → World → Prop} {Q : Exit → Act → World → Prop} (hd : ∀ c, o.op ≠ .defer c) (h : o.wp P a w next Q) : o.wpIn (Fence.wide.inRound l0) n P a w next Q := by
  refine ⟨fun _ _ => trivial, ?_⟩
  rw [Oper.semAt_eq _ _ _ hd]
  unfold Oper.wp at h
  generalize (execOp a.eval o).run P w = r at h
  cases r with
  | ok x w1 =>
    cases x with
    | value v => exact h
    | skip => exact h
    | defer d => exact h
    | enter f args => exact ⟨fun h => (by cases h), CallsIn.inRound l0 (callsIn_wide.2 h)⟩
    | row row args =>
      refine ⟨fun h => (by cases h), fun c cs _ => ?_⟩
      obtain ⟨v, w', h1, h2⟩ := h c cs
      exact ⟨v, w', h1, by rw [fenced_inRound]; exact stepsIn_wide.2 h2⟩
    | _ => exact h.elim
  | halt x w1 =>
    cases x <;> first | exact h | exact h.elim
theorem fOp_defer {o : Oper} (h : fOp o = true) : ∀ c, o.op ≠ .defer c := fun c e => by
  unfold fOp at h
  rw [e] at h
  cases h
theorem ops_okF {ops : Array Oper} {K : ASt → Prop} {Q : Exit → Act → World → Prop} : ∀ (l : List Oper) (a : Act) (w : World) (st : ASt) (L : Nat → Value), (∀ o ∈ l, fOp o = true) →
    (∀ a' w' st' L', K st' → Conc cx a' w' st' L' → Fr cx w st.tab L st.next w' st'.tab L' st'.next → Q .normal a' w') → Conc cx a w st L → aOps P ops K l st → wpListIn (Fence.wide.inRound l0) n P ops Q l a w
  | [], a, w, st, L, _, hQ, h, hp => hQ a w st L hp h Fr.refl
  | o :: rest, a, w, st, L, hf, hQ, h, hp => by
    unfold aOps at hp
    have hfo := hf o (List.mem_cons_self ..)
    refine wpListIn_step fun K' hK' => ?_
    rcases guard_ok h hp o rfl with ⟨hw, st', h1, h2, e1, e2⟩ | ⟨hw, st', h1, h2, e1, e2⟩
    · rw [if_pos hw]
      refine wpIn_of_wp (fOp_defer hfo) (Oper.wp_mono (fun a' w' ⟨st'', L', h3, h4, h5, _⟩ => hK' a' w' (ops_okF rest a' w' st'' L' (fun o ho => hf o (List.mem_cons_of_mem _ ho)) (fun a2 w2 st2 L2 h6 h7 h8 => hQ a2 w2 st2 L2 h6 h7 ?_) h4 h3)) (op_okF h2 h1 hfo))
      rw [e1, e2] at h5
      exact h5.trans h8
    · rw [if_neg (by simp [hw])]
      refine ⟨fun _ _ => trivial, hK' _ _ (ops_okF rest _ w _ L (fun o ho => hf o (List.mem_cons_of_mem _ ho)) (fun a2 w2 st2 L2 h6 h7 h8 => hQ a2 w2 st2 L2 h6 h7 ?_) (skip_conc h2 o.dst) h1)⟩
      rw [put_tab, put_next, e1, e2] at h8
      exact h8
/-- code that may stand in a round -/
def fCode : Code → Bool
  | .skip => true
  | .region _ ops draw => !draw && ops.toList.all fOp
  | .seq x y => fCode x && fCode y
  | .cond _ x y => fCode x && fCode y
  | .block _ x => fCode x
  | .exit _ => true
  | .ret => true
  | _ => false
theorem code_okF : ∀ (c : Code), fCode c = true → ∀ (Q : Exit → ASt → Prop) (a : Act) (w : World) (st : ASt) (L : Nat → Value), Conc cx a w st L → aCode P c Q st →
    c.wpIn (Fence.wide.inRound l0) n P (fun e a' w' => ∃ st' L', Q e st' ∧ Conc cx a' w' st' L' ∧ Fr cx w st.tab L st.next w' st'.tab L' st'.next) a w := by
  intro c
  induction c with
  | skip => exact fun _ Q a w st L h hp => wpIn_skip ⟨st, L, hp, h, Fr.refl⟩
  | region id ops draw =>
    intro hf Q a w st L h hp
    unfold aCode aReg at hp
    cases draw with
    | false =>
      simp only [fCode, Bool.not_false, Bool.true_and, List.all_eq_true] at hf
      exact wpIn_region_list (ops_okF _ a w st L hf (fun a' w' st' L' h1 h2 h3 => ⟨st', L', h1, h2, h3⟩) h (by simpa using hp))
    | true => cases hf
  | seq x y ihx ihy =>
    intro hf Q a w st L h hp
    simp only [fCode, Bool.and_eq_true] at hf
    unfold aCode at hp
    refine wpIn_seq (wpIn_mono (ihx hf.1 _ a w st L h hp) (fun e a' w' ⟨st', L', h1, h2, h3⟩ => ?_))
    cases e with
    | normal => exact wpIn_mono (ihy hf.2 Q a' w' st' L' h2 h1) fun e a2 w2 ⟨st2, L2, h4, h5, h6⟩ => ⟨st2, L2, h4, h5, h3.trans h6⟩
    | _ => exact ⟨st', L', h1, h2, h3⟩
  | cond c x y ihx ihy =>
    intro hf Q a w st L h hp
    simp only [fCode, Bool.and_eq_true] at hf
    unfold aCode aCond at hp
    split at hp
    · rename_i b hb
      have hv := (eval_ok h c).1
      rw [hb] at hv
      have hv := hv.c_inv
      cases b
      · exact wpIn_cond_false hv (ihy hf.2 Q a w st L h hp)
      · exact wpIn_cond_true hv (ihx hf.1 Q a w st L h hp)
    · exact hp.elim
  | block id x ih =>
    intro hf Q a w st L h hp
    simp only [fCode] at hf
    unfold aCode at hp
    refine wpIn_block (wpIn_mono (ih hf _ a w st L h hp) (fun e a' w' ⟨st', L', h1, h2, h3⟩ => ?_))
    cases e with
    | exit id' =>
      simp only [aInBlock, Exit.inBlock] at h1 ⊢
      split
      · rename_i e
        rw [if_pos e] at h1
        exact ⟨st', L', h1, h2, h3⟩
      · rename_i e
        rw [if_neg e] at h1
        exact ⟨st', L', h1, h2, h3⟩
    | _ => exact ⟨st', L', h1, h2, h3⟩
  | exit id => exact fun _ Q a w st L h hp => wpIn_exit ⟨st, L, hp, h, Fr.refl⟩
  | ret => exact fun _ Q a w st L h hp => wpIn_ret ⟨st, L, hp, h, Fr.refl⟩
  | _ => exact fun hf => (by cases hf)

/-! ### an iterator -/
/-- memory that the caller does not write: with what was laid since -/
def grow (T : Nat → Prop) (w w' : World) (b : Nat) : Prop := T b ∨ (w.heap.size ≤ b ∧ b < w'.heap.size)
structure Kept (T : Nat → Prop) (w w' : World) : Prop where
  os : w'.os = w.os
  tape : w'.tape = w.tape
  output : w'.output = w.output
  size : w.heap.size ≤ w'.heap.size
  block : ∀ b, T b → w'.heap[b]? = w.heap[b]?
/-- the iterator gf, that holds caps, hands on xs, one behind the other, and stops when it is told to. T: memory that the caller does not write; M: that part of it that the iterator may write, and the caller does not read -/
def ASeq (P : Program) (gf : FuncId) (caps : List AV) (xs : List (List AV)) : Prop :=
  Enters P gf ∧ ∀ (l : Nat) (T0 : Nat → Prop) (lb : Array Value) (W0 : World) (J Jx : List (List AV) → (Nat → Prop) → (Nat → Prop) → World → Prop), lb.size = caps.length → SOk W0 T0 →
    (∀ (j : Nat) (v : Value) (av : AV), lb[j]? = some v → caps[j]? = some av → RT W0 T0 v av) →
    (∀ pre T M W, J pre T M W → ∀ b, T b → b < W.heap.size) →
    (∀ pre T M M' W W', J pre T M W → BelowX M W.heap.size W W' → (∀ b, M' b → M b ∨ (W.heap.size ≤ b ∧ b < W'.heap.size)) → J pre (grow T W W') M' W') →
    (∀ pre T M M' W W', Jx pre T M W → BelowX M W.heap.size W W' → (∀ b, M' b → M b ∨ (W.heap.size ≤ b ∧ b < W'.heap.size)) → Jx pre (grow T W W') M' W') →
    (∀ pre x T M W (vs : Array Value), J pre T M W → (pre ++ [x]) <+: xs → vs.size = x.length → (∀ (j : Nat) (v : Value) (av : AV), vs[j]? = some v → x[j]? = some av → RT W (fun b => T b ∧ ¬ M b) v av) →
      YieldAt Fence.wide 0 P l vs W fun e W' => (e = .returned (.bool true) ∧ J (pre ++ [x]) T M W' ∧ Kept T W W') ∨ (e = .returned (.bool false) ∧ Jx (pre ++ [x]) T M W' ∧ Kept T W W')) →
    J [] T0 (fun _ => False) W0 →
    CallsIn Fence.wide 0 P gf (#[.func (.yield l) #[] #[]] ++ lb) W0 fun e W' => (∃ v, e = .returned v) ∧ ((∃ T M, J xs T M W') ∨ ∃ pre T M, pre <+: xs ∧ Jx pre T M W')

/-! ### the loop -/
theorem conc_move {c c' : Cx} (h : Conc c a w st L) (hw : c'.w0 = c.w0) (hblk : ∀ b, Sx c w st.tab L b → w'.heap[b]? = w.heap[b]?) (hown : ∀ id o g, st.tab.get id = some o → vblk (L id) = some g → w'.heap[g]? = w.heap[g]?) (hS : ∀ b, Sx c w st.tab L b → Sx c' w' st.tab L b)
    (hb : BelowX c'.X c'.w0.heap.size c'.w0 w') (hex : ∀ b, c'.X b → b < w'.heap.size ∧ ∀ id o, st.tab.get id = some o → vblk (L id) ≠ some b) : Conc c' a w' st L := by
  have hrv : ∀ {x av nx}, RVx c w st.tab L x av → av.lt nx → RVx c' w' st.tab L x av := fun hr hl => hr.mono hl (fun p hp => World.cell?_of_block (hblk _ hp)) hS (fun _ _ _ h => h)
  refine ⟨⟨hb, fun id o hid => ?_, h.lay.sep, hex⟩, h.size, by rw [hw]; exact h.defers.mono hblk hS, h.young, fun t => ⟨hrv (h.env t).1 (h.env t).2, (h.env t).2⟩⟩
  have ho := h.lay.objs id o hid
  have hy := (h.young id o hid).2
  cases o with
  | box t cells =>
    obtain ⟨g, cs, h1, h2, h3, h4, h5⟩ := ho
    exact ⟨g, cs, h1, by rw [hw]; exact h2, (hown id _ g hid (by rw [h1]; rfl)).trans h3, h4, fun j x av h6 h7 => ⟨hrv (h5 j x av h6 h7).1 (ltL_iff.1 hy _ (List.mem_of_getElem? h7)), (h5 j x av h6 h7).2⟩⟩
  | row e sz rows =>
    obtain ⟨h1, xs, hown', h2, h3⟩ := ho
    refine ⟨h1, xs, ⟨hown'.1, ?_⟩, h2, fun i j row av ha hb => ?_⟩
    · rcases hown'.2 with hn | ⟨g, cap, cur, h4, hb, hh, rest⟩
      · exact .inl hn
      · exact .inr ⟨g, cap, cur, h4, by rw [hw]; exact hb, (hown id _ g hid (by rw [h4]; rfl)).trans hh, rest⟩
    · obtain ⟨x, hx, hr⟩ := h3 i j row av ha hb
      exact ⟨x, hx, hr.mono (fun p hp => World.cell?_of_block (hblk _ hp)) hS⟩
  | map ents =>
    obtain ⟨b, es, ck, h1, h2, h3, h4⟩ := ho
    exact ⟨b, es, ck, h1, by rw [hw]; exact h2, (hown id _ b hid (by rw [h1]; rfl)).trans h3, h4⟩
  | ghost vs env => exact ⟨ho.1, fun t ht => hrv (ho.2 t ht) (envLt_aget hy t)⟩
def Cx.ex (c : Cx) (M : Nat → Prop) (hM : ∀ b, M b → c.w0.heap.size ≤ b) : Cx := ⟨c.F, c.w0, fun b => c.X b ∨ M b, c.amb, fun b h => h.elim (c.exD b) fun h2 => Nat.le_trans c.amb.le (hM b h2), c.inF⟩
def JAt (cx : Cx) (a0 : Act) (l : Nat) (r : Loop) (I : ASt → Prop) (T M : Nat → Prop) (W : World) : Prop :=
  ∃ (hqq : ∀ b, M b → cx.w0.heap.size ≤ b) (st : ASt) (L : Nat → Value), I st ∧ Conc (cx.ex M hqq) a0 W st L ∧ W.heap[l]? = some (.loop r) ∧ Sx (cx.ex M hqq) W st.tab L l ∧ ¬ T l ∧ (∀ b, M b → T b ∧ cx.w0.heap.size ≤ b) ∧ ∀ b, T b → Sx cx W st.tab L b
theorem sx_below (h : Conc cx a w st L) (hb : w.heap.size ≤ w'.heap.size) {b : Nat} (hs : Sx cx w st.tab L b) : Sx cx w' st.tab L b := ⟨Nat.lt_of_lt_of_le hs.1 hb, hs.2.1, hs.2.2⟩
theorem sx_new (h : Conc cx a w st L) {b : Nat} (h1 : w.heap.size ≤ b) (h2 : b < w'.heap.size) : Sx cx w' st.tab L b :=
  ⟨h2, ⟨.inr (Nat.le_trans h.lay.below.size h1), fun hX => absurd (h.lay.ex b hX).1 (Nat.not_lt.2 h1)⟩, fun id o hid hg => absurd ((h.lay.objs id o hid).ge hg).2 (by omega)⟩
theorem JAt.step {a0 : Act} {l : Nat} {r : Loop} {I : ASt → Prop} {T M M' : Nat → Prop} (h : JAt cx a0 l r I T M w) (hb : BelowX M w.heap.size w w') (hM : ∀ b, M' b → M b ∨ (w.heap.size ≤ b ∧ b < w'.heap.size)) : JAt cx a0 l r I (grow T w w') M' w' := by
  obtain ⟨hqq, st, L, h1, h2, h3, h4, h5, h6, h7⟩ := h
  have hsz : cx.w0.heap.size ≤ w.heap.size := h2.lay.below.size
  have hq' : ∀ b, M' b → cx.w0.heap.size ≤ b := fun b hb2 => (hM b hb2).elim (hqq b) fun h8 => Nat.le_trans hsz h8.1
  have hS : ∀ b, Sx (cx.ex M hqq) w st.tab L b → Sx (cx.ex M' hq') w' st.tab L b := fun b hs => ⟨Nat.lt_of_lt_of_le hs.1 hb.size, ⟨hs.2.1.1, fun hx => by
    rcases hx with hx | hx
    · exact hs.2.1.2 (.inl hx)
    · rcases hM b hx with hm | hm
      · exact hs.2.1.2 (.inr hm)
      · have := hs.1
        omega⟩, hs.2.2⟩
  have hblk : ∀ b, Sx (cx.ex M hqq) w st.tab L b → w'.heap[b]? = w.heap[b]? := fun b hs => hb.block b hs.1 fun hm => hs.2.1.2 (.inr hm)
  have hex : ∀ b, (cx.ex M' hq').X b → b < w'.heap.size ∧ ∀ id o, st.tab.get id = some o → vblk (L id) ≠ some b := fun b hx => by
    have old : (cx.ex M hqq).X b → b < w'.heap.size ∧ ∀ id o, st.tab.get id = some o → vblk (L id) ≠ some b := fun hx => ⟨Nat.lt_of_lt_of_le (h2.lay.ex b hx).1 hb.size, (h2.lay.ex b hx).2⟩
    rcases hx with hx | hx
    · exact old (.inl hx)
    · rcases hM b hx with hm | hm
      · exact old (.inr hm)
      · exact ⟨hm.2, fun id o hid hg => absurd ((h2.lay.objs id o hid).ge hg).2 (by omega)⟩
  have hbel : BelowX (cx.ex M' hq').X (cx.ex M' hq').w0.heap.size (cx.ex M' hq').w0 w' := by
    have h8 : BelowX (cx.ex M hqq).X cx.w0.heap.size cx.w0 w := h2.lay.below
    refine ⟨hb.os.trans h8.os, hb.tape.trans h8.tape, hb.output.trans h8.output, Nat.le_trans h8.size hb.size, fun k (hk : k < cx.w0.heap.size) hx => ?_⟩
    have hm : ¬ M k := fun hm => by
      have := (h6 k hm).2
      omega
    refine (hb.block k (by omega) hm).trans (h8.block k hk fun hx' => ?_)
    rcases hx' with hx' | hx'
    · exact hx (.inl hx')
    · exact hm hx'
  refine ⟨hq', st, L, h1, conc_move h2 rfl hblk (fun id o g hid hg => hb.block g ((h2.lay.objs id o hid).ge hg).2 fun hm => (h2.lay.ex g (.inr hm)).2 id o hid hg) hS hbel hex, (hblk l h4).trans h3, hS l h4, fun hg => ?_, fun b hm => ?_, fun b hg => ?_⟩
  · rcases hg with hg | hg
    · exact h5 hg
    · have := h4.1
      omega
  · rcases hM b hm with hm | hm
    · exact ⟨.inl (h6 b hm).1, (h6 b hm).2⟩
    · exact ⟨.inr hm, by omega⟩
  · rcases hg with hg | hg
    · exact ⟨Nat.lt_of_lt_of_le (h7 b hg).1 hb.size, (h7 b hg).2.1, (h7 b hg).2.2⟩
    · have := sx_new h2 hg.1 hg.2
      exact ⟨this.1, ⟨this.2.1.1, fun hx => this.2.1.2 (.inl hx)⟩, this.2.2⟩
/-- the caller's slots, at what the round has left -/
theorem conc_follow {A a1 : Act} {st1 stA : ASt} {LA : Nat → Value} (h : Conc cx A w st1 L) (hf : Fr cx w st1.tab L st1.next w' stA.tab LA stA.next) (hA : Conc cx a1 w' stA LA) : Conc cx A w' ⟨st1.n, st1.env, stA.tab, stA.next⟩ LA :=
  ⟨hA.lay, h.size, h.defers.mono hf.ext.blk hf.ext.sub, hA.young, fun t => ⟨hf.ext.rv (h.env t).1 (h.env t).2, AV.lt_mono hf.next (h.env t).2⟩⟩
/-- a loop's record turns -/
theorem conc_turn {l : Nat} {r : Loop} (h : Conc cx a w st L) (hb : cx.w0.heap.size ≤ l) (hl : w.heap[l]? = some (.loop r)) (r' : Loop) : Conc cx a (w.putObj l (.loop r')) st L := by
  have := conc_keep h (KeepM.turn hb hl r') (ds := a.defers) ⟨h.defers.1, fun d hd => ?_⟩
  · exact this
  · obtain ⟨k, h1, h2, h3, h4⟩ := h.defers.2 d hd
    have hne : k ≠ l := fun e => by rw [e, hl] at h3; cases h3
    exact ⟨k, h1, h2, (World.putObj_heap_other hne).trans h3, ⟨by simp; exact h4.1, h4.2.1, h4.2.2⟩⟩
def putAll : List (Nat × AV) → ASt → ASt
  | [], st => st
  | (p, av) :: l, st => putAll l (st.put (some p) av)
theorem putAll_tab : ∀ (l : List (Nat × AV)) (st : ASt), (putAll l st).tab = st.tab ∧ (putAll l st).next = st.next ∧ (putAll l st).n = st.n
  | [], _ => ⟨rfl, rfl, rfl⟩
  | (p, av) :: l, st => putAll_tab l (st.put (some p) av)
theorem conc_params : ∀ (ps : List Nat) (vs : List Value) (x : List AV) {t : Array Value} {st : ASt}, Conc cx { tmps := t, defers := [] } w st L → vs.length = ps.length → x.length = ps.length →
    (∀ (j : Nat) (v : Value) (av : AV), vs[j]? = some v → x[j]? = some av → RVx cx w st.tab L v av ∧ av.lt st.next) →
    Conc cx { tmps := (ps.zip vs).foldl (fun t (p : Nat × Value) => t.setIfInBounds p.1 p.2) t, defers := [] } w (putAll (ps.zip x) st) L
  | [], _, _, _, _, h, _, _, _ => h
  | p :: ps, [], _, _, _, _, h1, _, _ => by simp at h1
  | p :: ps, v :: vs, [], _, _, _, _, h2, _ => by simp at h2
  | p :: ps, v :: vs, av :: x, t, st, h, h1, h2, h3 => by
    have h4 := h3 0 v av rfl rfl
    have h5 := conc_pure h h4.1 h4.2 (some p)
    exact conc_params ps vs x (t := t.setIfInBounds p v) (st := st.put (some p) av) h5 (by simpa using h1) (by simpa using h2) fun j v' av' h6 h7 => h3 (j + 1) v' av' (by simpa using h6) (by simpa using h7)
/-- how a round may end -/
def aRnd (I : List (List AV) → ASt → Prop) (Ix : Code → List (List AV) → ASt → Prop) (pre : List (List AV)) (st1 : ASt) : Exit → ASt → Prop
  | .normal, st' => aTo (I pre) ⟨st1.n, st1.env, st'.tab, st'.next⟩
  | .ret, st' => aTo (Ix .ret pre) ⟨st1.n, st1.env, st'.tab, st'.next⟩
  | .exit id, st' => aTo (Ix (.exit id) pre) ⟨st1.n, st1.env, st'.tab, st'.next⟩
  | _, _ => False
def aNone : Exit → ASt → Prop := fun _ _ => False
theorem range_round {a0 : Act} {l fn D : Nat} {T M : Nat → Prop} {ps : Array Tmp} {assign body : Code} {I : List (List AV) → ASt → Prop} {Ix : Code → List (List AV) → ASt → Prop} {pre : List (List AV)} {x : List AV} {vs : Array Value}
    (hfa : fCode assign = true) (hfb : fCode body = true) (hn : x.length = ps.size) (hb : cx.w0.heap.size ≤ l)
    (hr : ∀ st1, I pre st1 → aCode P assign (aThen (aCode P body (aRnd I Ix (pre ++ [x]) st1)) aNone) (putAll (ps.toList.zip x) st1))
    (h : JAt cx a0 l { state := .ready, pending := none, fn, tmps := a0.tmps, params := ps, assign, body, defers := D } (I pre) T M w) (hv : vs.size = x.length) (hrt : ∀ (j : Nat) (v : Value) (av : AV), vs[j]? = some v → x[j]? = some av → RT w (fun b => T b ∧ ¬ M b) v av) :
    YieldAt Fence.wide 0 P l vs w fun e W' => (e = .returned (.bool true) ∧ JAt cx a0 l { state := .ready, pending := none, fn, tmps := a0.tmps, params := ps, assign, body, defers := D } (I (pre ++ [x])) T M W' ∧ Kept T w W') ∨
      (e = .returned (.bool false) ∧ (∃ c, JAt cx a0 l { state := .done, pending := some c, fn, tmps := a0.tmps, params := ps, assign, body, defers := D } (Ix c (pre ++ [x])) T M W') ∧ Kept T w W') := by
  obtain ⟨hqq, st1, L, hI, hC, hl, hSl, hTl, hMT, hT⟩ := h
  have hb : (cx.ex M hqq).w0.heap.size ≤ l := hb
  have hy := run_yield (P := P) (args := vs) hl (by simp; omega)
  refine ⟨fn, _, assign, body, hy, roundIn_of_wpIn trivial ?_⟩
  have hC0 : Conc (cx.ex M hqq) { tmps := a0.tmps, defers := [] } w st1 L := ⟨hC.lay, hC.size, Marks.nil _ _ _, hC.young, hC.env⟩
  have hTS : ∀ b, T b ∧ ¬ M b → Sx (cx.ex M hqq) w st1.tab L b := fun b hb' => ⟨(hT b hb'.1).1, ⟨(hT b hb'.1).2.1.1, fun hx => by
    rcases hx with hx | hx
    · exact (hT b hb'.1).2.1.2 hx
    · exact hb'.2 hx⟩, (hT b hb'.1).2.2⟩
  have hCp := conc_params ps.toList vs.toList x hC0 (by simp; omega) (by simpa using hn) fun j v av h1 h2 => by
    have := hrt j v av (by simpa using h1) h2
    exact ⟨.tree (this.mono (fun _ _ => rfl) hTS), this.lt _⟩
  have ef : (ps.zip vs).foldl (fun tmps (x : Tmp × Value) => match x with | (t, a) => tmps.setIfInBounds t a) a0.tmps = (ps.toList.zip vs.toList).foldl (fun t (p : Nat × Value) => t.setIfInBounds p.1 p.2) a0.tmps := by
    rw [← Array.foldl_toList, Array.toList_zip]
  rw [ef]
  obtain ⟨e1, e2, _⟩ := putAll_tab (ps.toList.zip x) st1
  refine wpIn_mono (code_okF assign hfa _ _ _ _ _ hCp (hr st1 hI)) fun e a1 w1 ⟨stA, LA, hq, hCA, hFA⟩ => ?_
  rw [e1, e2] at hFA
  cases e with
  | normal =>
    have hl1 : w1.heap[l]? = _ := (hFA.keep l hSl.1 hSl.2.2).trans hl
    have hSl1 := hFA.ext.sub l hSl
    refine ⟨_, run_beginRound hl1 rfl, ?_⟩
    have hCA2 := conc_turn hCA hb hl1 { state := .busy, pending := none, fn, tmps := a0.tmps, params := ps, assign, body, defers := D }
    have hF1 := conc_follow hC hFA hCA
    have hF2 := conc_turn hF1 hb hl1 { state := .busy, pending := none, fn, tmps := a0.tmps, params := ps, assign, body, defers := D }
    have hos2 : ∀ o, (w1.putObj l o).os = w1.os ∧ (w1.putObj l o).tape = w1.tape ∧ (w1.putObj l o).output = w1.output := fun o => ⟨rfl, rfl, rfl⟩
    generalize hw2 : w1.putObj l (.loop { state := .busy, pending := none, fn, tmps := a0.tmps, params := ps, assign, body, defers := D }) = w2 at hCA2 hF2
    have hsz2 : w2.heap.size = w1.heap.size := by rw [← hw2]; simp
    have hl2 : w2.heap[l]? = some (.loop { state := .busy, pending := none, fn, tmps := a0.tmps, params := ps, assign, body, defers := D }) := by rw [← hw2]; exact World.putObj_heap_same hSl1.1
    have hoth2 : ∀ b, b ≠ l → w2.heap[b]? = w1.heap[b]? := fun b hb' => by rw [← hw2]; exact World.putObj_heap_other hb'
    have hS2 : ∀ b, Sx (cx.ex M hqq) w1 stA.tab LA b → Sx (cx.ex M hqq) w2 stA.tab LA b := fun b hs => ⟨by rw [hsz2]; exact hs.1, hs.2.1, hs.2.2⟩
    refine wpIn_mono (code_okF body hfb _ _ _ _ _ hCA2 hq) fun e a2 w3 ⟨stB, LB, hq2, hCB, hFB⟩ => ?_
    have hl3 : w3.heap[l]? = _ := (hFB.keep l (hS2 l hSl1).1 (hS2 l hSl1).2.2).trans hl2
    have hSl3 := hFB.ext.sub l (hS2 l hSl1)
    have hF3 := conc_follow (st1 := ⟨st1.n, st1.env, stA.tab, stA.next⟩) hF2 hFB hCB
    have hown2 : ∀ b, T b → ∀ id o, stA.tab.get id = some o → vblk (LA id) ≠ some b := fun b hb' id o hid hg => by
      obtain ⟨id2, o2, h3, h4⟩ := hFA.young id o b hid hg (hT b hb').1
      exact (hT b hb').2.2 id2 o2 h3 h4
    have hkeep : ∀ b, T b → w3.heap[b]? = w.heap[b]? := fun b hb' => by
      have hbl : b ≠ l := fun e => hTl (by rw [← e]; exact hb')
      have h1 := (hT b hb').1
      have h2 := hFA.size
      rw [hFB.keep b (by omega) (hown2 b hb'), hoth2 b hbl, hFA.keep b h1 (hT b hb').2.2]
    have fin : ∀ (jump : Option Code) (s : LoopState) (K : ASt → Prop), (if jump.isNone then LoopState.ready else LoopState.done) = s → aTo K ⟨st1.n, st1.env, stB.tab, stB.next⟩ →
        (Instr.endRound l jump).run P w3 = .ok (.bool jump.isNone) (w3.putObj l (.loop { state := s, pending := jump, fn, tmps := a0.tmps, params := ps, assign, body, defers := D })) ∧
        JAt cx a0 l { state := s, pending := jump, fn, tmps := a0.tmps, params := ps, assign, body, defers := D } K T M (w3.putObj l (.loop { state := s, pending := jump, fn, tmps := a0.tmps, params := ps, assign, body, defers := D })) ∧
        Kept T w (w3.putObj l (.loop { state := s, pending := jump, fn, tmps := a0.tmps, params := ps, assign, body, defers := D })) := fun jump s K hs hK => by
      subst hs
      have hr3 := run_endRound (P := P) jump hl3
      refine ⟨hr3, ?_, ?_⟩
      · obtain ⟨stC, hweak, hKC⟩ := hK
        have hF4 := conc_turn hF3 hb hl3 { state := if jump.isNone then .ready else .done, pending := jump, fn, tmps := a0.tmps, params := ps, assign, body, defers := D }
        obtain ⟨LC, hCC, hSC⟩ := hweak _ _ _ _ hF4
        have up : ∀ b, Sx (cx.ex M hqq) w3 stB.tab LB b → Sx (cx.ex M hqq) (w3.putObj l (.loop { state := if jump.isNone then .ready else .done, pending := jump, fn, tmps := a0.tmps, params := ps, assign, body, defers := D })) stC.tab LC b := fun b hs => hSC b ⟨by simp; exact hs.1, hs.2.1, hs.2.2⟩
        refine ⟨hqq, stC, LC, hKC, hCC, World.putObj_heap_same hSl3.1, up l hSl3, hTl, hMT, fun b hb' => ?_⟩
        by_cases hm : M b
        · refine ⟨(hCC.lay.ex b (.inr hm)).1, (hT b hb').2.1, (hCC.lay.ex b (.inr hm)).2⟩
        · have := up b (hFB.ext.sub b (hS2 b (hFA.ext.sub b (hTS b ⟨hb', hm⟩))))
          exact ⟨this.1, (hT b hb').2.1, this.2.2⟩
      · have hW : BelowX (cx.ex M hqq).X (cx.ex M hqq).w0.heap.size (cx.ex M hqq).w0 w := hC.lay.below
        have hW3 : BelowX (cx.ex M hqq).X (cx.ex M hqq).w0.heap.size (cx.ex M hqq).w0 w3 := hCB.lay.below
        refine ⟨hW3.os.trans hW.os.symm, hW3.tape.trans hW.tape.symm, hW3.output.trans hW.output.symm, ?_, fun b hb' => ?_⟩
        · have := hFA.size
          have := hFB.size
          simp
          omega
        · have hbl : b ≠ l := fun e => hTl (by rw [← e]; exact hb')
          rw [World.putObj_heap_other hbl]
          exact hkeep b hb'
    cases e with
    | normal =>
      obtain ⟨h1, h2, h3⟩ := fin none .ready _ rfl hq2
      exact ⟨_, _, h1, .inl ⟨rfl, h2, h3⟩⟩
    | ret =>
      obtain ⟨h1, h2, h3⟩ := fin (some .ret) .done _ rfl hq2
      exact ⟨_, _, h1, .inr ⟨rfl, ⟨_, h2⟩, h3⟩⟩
    | exit id =>
      obtain ⟨h1, h2, h3⟩ := fin (some (.exit id)) .done _ rfl hq2
      exact ⟨_, _, h1, .inr ⟨rfl, ⟨_, h2⟩, h3⟩⟩
    | goto t => exact hq2.elim
    | panic c => exact hq2.elim
    | outgrown => exact hq2.elim
  | _ => exact hq.elim
/-- A RANGE OVER A FUNCTION. -/
theorem range_ok (hm : P.follows .mixedOrders = true) {g : Operand} {ps : Array Tmp} {assign body : Code} {Q : Exit → ASt → Prop} {gf : FuncId} {caps : List AV} {xs : List (List AV)}
    (I : List (List AV) → ASt → Prop) (Ix : Code → List (List AV) → ASt → Prop)
    (hg : aFn (aEv st g) fun g' cs => g' = gf ∧ cs = caps) (ht : treeL caps) (hseq : ASeq P gf caps xs) (hx : ∀ x ∈ xs, x.length = ps.size) (hfa : fCode assign = true) (hfb : fCode body = true)
    (h0 : aTo (I []) st)
    (hr : ∀ pre x st1, (pre ++ [x]) <+: xs → I pre st1 → aCode P assign (aThen (aCode P body (aRnd I Ix (pre ++ [x]) st1)) aNone) (putAll (ps.toList.zip x) st1))
    (hd : ∀ st', I xs st' → Q .normal st') (hs : ∀ c pre st', pre <+: xs → Ix c pre st' → aCode P c Q st') : aCode P (.rangeFunc g ps assign body) Q st := by
  intro cx a w L h
  obtain ⟨gf', lb, cs, hgv, hlb, hcap, ⟨rfl, rfl⟩, _⟩ := aFn_inv (eval_ok h g).1 (eval_ok h g).2 hg
  refine wpIn_wide.1 (wpIn_rangeFunc (n := 0) ?_)
  intro fn _
  have hbase : cx.w0.heap.size ≤ w.heap.size := h.lay.below.size
  generalize hrec : ({ state := .ready, pending := none, fn, tmps := a.tmps, params := ps, assign, body, defers := w.heap.size } : Loop) = r
  generalize hW1 : (w.alloc (.deferred (some []))).alloc (.loop r) = W1
  have hb01 : Below w.heap.size w W1 := by
    rw [← hW1]
    exact ((Below.refl _ w).alloc (Nat.le_refl _) _).alloc (by simp) _
  have hs1 : W1.heap.size = w.heap.size + 2 := by rw [← hW1]; simp
  have hL1 : W1.heap[w.heap.size + 1]? = some (.loop r) := by
    rw [← hW1]
    have := World.alloc_heap_new (w.alloc (.deferred (some []))) (.loop r)
    rwa [World.size_alloc] at this
  have hK1 : W1.heap[w.heap.size]? = some (.deferred (some [])) := by
    rw [← hW1]
    exact (Below.heap_alloc _ _ _ (by simp)).trans (World.alloc_heap_new w _)
  have hC1 : Conc cx { a with defers := [{ target := .collected w.heap.size, args := #[] }] ++ a.defers } W1 st L := by
    have h1 := conc_below h hb01
    refine ⟨h1.lay, h1.size, ⟨List.nodup_cons.2 ⟨fun hmem => ?_, h1.defers.1⟩, fun d hd => ?_⟩, h1.young, h1.env⟩
    · obtain ⟨k, e, _, _, h2⟩ := h.defers.2 _ hmem
      injection e with e _
      injection e with e
      have := h2.1
      omega
    · rcases List.mem_cons.1 hd with rfl | hd
      · exact ⟨_, rfl, hbase, hK1, sx_new h (Nat.le_refl _) (by omega)⟩
      · exact h1.defers.2 d hd
  obtain ⟨st0, hweak, hI0⟩ := h0
  obtain ⟨L0, hC0, hS0⟩ := hweak _ _ _ _ hC1
  refine ⟨w.heap.size + 1, [{ target := .collected w.heap.size, args := #[] }], W1, { target := .fn (.func gf') lb, args := #[.func (.yield (w.heap.size + 1)) #[] #[]] }, W1, gf',
    #[.func (.yield (w.heap.size + 1)) #[] #[]] ++ lb, W1, ?_, ?_, fun _ _ => trivial, ?_, fun h => (by cases h), ?_⟩
  · rw [← hW1, ← hrec]
    exact run_enterLoop_outer _ _ _ _ _
  · simp only [resolve, hgv]
    simp [go_sem]
  · have := hseq.1 (#[.func (.yield (w.heap.size + 1)) #[] #[]] ++ lb) W1
    simp [invoke, go_sem, this]
  · have hpre : ∀ {pre : List (List AV)} {x : List AV}, (pre ++ [x]) <+: xs → x.length = ps.size := fun hp => hx _ (hp.subset (by simp))
    have hex0 : ∀ {cx' : Cx} {W : World} {st : ASt} {L : Nat → Value} {A : Act}, Conc cx' A W st L → Conc (cx'.ex (fun _ => False) fun _ h => h.elim) A W st L := fun h => by
      refine conc_move h rfl (fun _ _ => rfl) (fun _ _ _ _ _ => rfl) (fun b hs => ⟨hs.1, ⟨hs.2.1.1, fun hx => hs.2.1.2 (hx.resolve_right id)⟩, hs.2.2⟩) ⟨h.lay.below.os, h.lay.below.tape, h.lay.below.output, h.lay.below.size, fun k hk hx => h.lay.below.block k hk fun hx' => hx (.inl hx')⟩ (fun b hx => h.lay.ex b (hx.resolve_right id))
    have hex1 : ∀ {M : Nat → Prop} {W : World} {st : ASt} {L : Nat → Value} {A : Act}, (hq : ∀ b, M b → cx.w0.heap.size ≤ b) → Conc (cx.ex M hq) A W st L → Conc cx A W st L := fun hM h => by
      have hbl : BelowX (cx.ex _ hM).X cx.w0.heap.size cx.w0 _ := h.lay.below
      refine conc_move h rfl (fun _ _ => rfl) (fun _ _ _ _ _ => rfl) (fun b hs => ⟨hs.1, ⟨hs.2.1.1, fun hx => hs.2.1.2 (.inl hx)⟩, hs.2.2⟩) ⟨hbl.os, hbl.tape, hbl.output, hbl.size, fun k hk hx => hbl.block k hk fun hx' => ?_⟩ (fun b hx => h.lay.ex b (.inl hx))
      rcases hx' with hx' | hx'
      · exact hx hx'
      · have := hM k hx'
        omega
    refine (hseq.2 (w.heap.size + 1) (Sx cx w st.tab L) lb W1
      (fun pre T M W => JAt cx { a with defers := [{ target := .collected w.heap.size, args := #[] }] ++ a.defers } (w.heap.size + 1) { state := .ready, pending := none, fn, tmps := a.tmps, params := ps, assign, body, defers := w.heap.size } (I pre) T M W)
      (fun pre T M W => ∃ c, JAt cx { a with defers := [{ target := .collected w.heap.size, args := #[] }] ++ a.defers } (w.heap.size + 1) { state := .done, pending := some c, fn, tmps := a.tmps, params := ps, assign, body, defers := w.heap.size } (Ix c pre) T M W)
      hlb ⟨fun b hb => Nat.lt_of_lt_of_le hb.1 hb01.size, h.lay.amb.below hb01, h.lay.sok.tab⟩ (fun j v av h1 h2 => ?_) (fun pre T M W ⟨_, _, _, _, _, _, _, _, _, hT⟩ b hb => (hT b hb).1) (fun pre T M M' W W' hj hb hm => hj.step hb hm) (fun pre T M M' W W' ⟨c, hj⟩ hb hm => ⟨c, hj.step hb hm⟩)
      (fun pre x T M W vs hj hp hv hrt => range_round (a0 := { a with defers := [{ target := .collected w.heap.size, args := #[] }] ++ a.defers }) hfa hfb (hpre hp) (by omega) (fun st1 hi => hr pre x st1 hp hi) hj hv hrt) ?_).mono ?_
    · have h3 := tree_of (hcap j v av h1 h2) (treeL_iff.1 ht av (List.mem_of_getElem? h2))
      exact h3.mono (fun p hp => World.cell?_of_block (hb01.block p.block hp.1)) fun b hb => hb
    · have hC0' := hex0 hC0
      have hSl := hS0 _ (sx_new (w' := W1) h (b := w.heap.size + 1) (by omega) (by omega))
      refine ⟨fun _ h => h.elim, st0, L0, hI0, hC0', by rw [hL1, ← hrec], ⟨hSl.1, ⟨hSl.2.1.1, fun hx => hSl.2.1.2 (hx.resolve_right id)⟩, hSl.2.2⟩, fun hT => ?_, fun b hb => hb.elim, fun b hb => hS0 b (sx_below h hb01.size hb)⟩
      have := hT.1
      omega
    · rintro e W2 ⟨⟨v, rfl⟩, (⟨T, M, hq2, st2, L2, h1, h2, h3, h4, _, h6, _⟩ | ⟨pre, T, M, hp, c, hq2, st2, L2, h1, h2, h3, h4, _, h6, _⟩)⟩
      · exact ⟨none, _, run_endLoop h3 (by simp), st2, L2, hd st2 h1, conc_turn (hex1 hq2 h2) (by omega) h3 _⟩
      · refine ⟨some c, _, run_endLoop h3 (by simp), wpIn_wide.2 ?_⟩
        exact code_ok hm c Q _ _ st2 L2 (conc_turn (hex1 hq2 h2) (by omega) h3 _) (hs c pre st2 hp h1)
end
end
end Go.Proofs.YtmochnclbcbijaaGreat
