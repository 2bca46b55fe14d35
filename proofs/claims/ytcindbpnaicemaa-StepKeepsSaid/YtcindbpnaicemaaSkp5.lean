/-
  Parts of the proof: AlI, AlJ0, AlTy, AlJ, AlK, EvSpec, Rep, EvRep, Struct, Mod, EvA, Bits.
-/
import Derived.Test.YtcindbpnaicemaaSkp4
import Derived.RangeFuncLeaves
import Derived.RangeFuncRecord
import Derived.Test.YtcindbpnaicemaaProg
import Derived.Laws.StructEq
import Derived.WalkKit
import Derived.WalkLawsBesides
import Derived.ProofKit
import Derived.OpenShut
import Derived.Deep.Slices
import Derived.BigQuiet
import Derived.Deep.QuietTactic
set_option linter.unusedVariables false
set_option linter.unusedSimpArgs false
namespace Go.Proofs.Ytcindbpnaicemaa
section
open Go.RowKit

/-- what is given back: the objects that it names are slices of the call's own -/
def aTabs (st : ASt) (ren : List Nat) : ATab → Prop
  | [] => True
  | (k, o) :: T => (k < ren.length ∧ (∃ e sz rows, o = some (.row e sz rows)) ∧ st.tab.get (ren.getD k 0) = o) ∧ aTabs st ren T
def aGives (R : Res) (st : ASt) (av : AV) : Prop := ∃ ren : List Nat, ren.Nodup ∧ R.r.ren ren = av ∧ aTabs st ren R.tab
def aResL (P : Program) (st : ASt) : List ResultVar → (List AV → Prop) → Prop
  | [], K => K []
  | .tmp t :: l, K => aResL P st l fun avs => K (st.get t :: avs)
  | .cell p ty :: l, K => aLoad P ty st.tab (st.get p) fun av => aResL P st l fun avs => K (av :: avs)
def aOne : List AV → AV
  | [x] => x
  | l => .tup l
def aRetR (P : Program) (rs : List ResultVar) (Post : Res → Prop) : Exit → ASt → Prop
  | .normal, st => aResL P st rs fun avs => ∃ R, Post R ∧ R.Ok ∧ aGives R st (aOne avs)
  | .ret, st => aResL P st rs fun avs => ∃ R, Post R ∧ R.Ok ∧ aGives R st (aOne avs)
  | _, _ => False
def aRet (P : Program) (rs : List ResultVar) (R : Res) : Exit → ASt → Prop
  | .normal, st => aResL P st rs fun avs => aGives R st (aOne avs)
  | .ret, st => aResL P st rs fun avs => aGives R st (aOne avs)
  | _, _ => False
theorem aRet_n {P : Program} {rs : List ResultVar} {R : Res} {st : ASt} : aRet P rs R .normal st = aResL P st rs fun avs => aGives R st (aOne avs) := rfl
theorem aRet_r {P : Program} {rs : List ResultVar} {R : Res} {st : ASt} : aRet P rs R .ret st = aResL P st rs fun avs => aGives R st (aOne avs) := rfl
theorem aRetR_n {P : Program} {rs : List ResultVar} {Post : Res → Prop} {st : ASt} : aRetR P rs Post .normal st = aResL P st rs fun avs => ∃ R, Post R ∧ R.Ok ∧ aGives R st (aOne avs) := rfl
theorem aRetR_r {P : Program} {rs : List ResultVar} {Post : Res → Prop} {st : ASt} : aRetR P rs Post .ret st = aResL P st rs fun avs => ∃ R, Post R ∧ R.Ok ∧ aGives R st (aOne avs) := rfl
/-- what a method leaves -/
def aRetH (P : Program) (rs : List ResultVar) (t : TypeId) (n : Nat) (Post : AV → List AV → List AObj → Prop) : Exit → ASt → Prop
  | .normal, st => aResL P st rs fun avs => ∃ cells' objs', Post (aOne avs) cells' objs' ∧ roA (aOne avs) ∧ (cells'.length = n ∧ AV.ltL (objs'.length + 1) cells' ∧ ∀ o ∈ objs', plainO o) ∧ Weak st ⟨st.n, [(0, .op 0 0 0)], tabN 0 (.box t cells' :: objs'), objs'.length + 1⟩
  | .ret, st => aResL P st rs fun avs => ∃ cells' objs', Post (aOne avs) cells' objs' ∧ roA (aOne avs) ∧ (cells'.length = n ∧ AV.ltL (objs'.length + 1) cells' ∧ ∀ o ∈ objs', plainO o) ∧ Weak st ⟨st.n, [(0, .op 0 0 0)], tabN 0 (.box t cells' :: objs'), objs'.length + 1⟩
  | _, _ => False
theorem aRetH_n {P : Program} {rs : List ResultVar} {t : TypeId} {n : Nat} {Post : AV → List AV → List AObj → Prop} {st : ASt} : aRetH P rs t n Post .normal st = aResL P st rs fun avs => ∃ cells' objs', Post (aOne avs) cells' objs' ∧ roA (aOne avs) ∧ (cells'.length = n ∧ AV.ltL (objs'.length + 1) cells' ∧ ∀ o ∈ objs', plainO o) ∧ Weak st ⟨st.n, [(0, .op 0 0 0)], tabN 0 (.box t cells' :: objs'), objs'.length + 1⟩ := rfl
theorem aRetH_r {P : Program} {rs : List ResultVar} {t : TypeId} {n : Nat} {Post : AV → List AV → List AObj → Prop} {st : ASt} : aRetH P rs t n Post .ret st = aResL P st rs fun avs => ∃ cells' objs', Post (aOne avs) cells' objs' ∧ roA (aOne avs) ∧ (cells'.length = n ∧ AV.ltL (objs'.length + 1) cells' ∧ ∀ o ∈ objs', plainO o) ∧ Weak st ⟨st.n, [(0, .op 0 0 0)], tabN 0 (.box t cells' :: objs'), objs'.length + 1⟩ := rfl
def envOf : Nat → List AV → List (Nat × AV)
  | _, [] => []
  | k, a :: l => (k, a) :: envOf (k + 1) l
theorem aget_envOf : ∀ (l : List AV) (k t : Nat), aget (envOf k l) t = if k ≤ t then l.getD (t - k) .any else .any
  | [], k, t => by simp [envOf, aget]
  | a :: l, k, t => by
    simp only [envOf, aget]
    rw [aget_envOf l (k + 1) t]
    by_cases h : t = k
    · subst h
      simp
    · rw [if_neg h]
      by_cases h2 : k ≤ t
      · rw [if_pos (by omega), if_pos h2, show t - k = (t - (k + 1)) + 1 by omega]
        simp
      · rw [if_neg (by omega), if_neg h2]

section
variable {P : Program} {cx : Cx} {a : Act} {w w' : World} {tab : ATab} {st : ASt} {L : Nat → Value} {nx : Nat}
theorem tabs_get {ren : List Nat} : ∀ {T : ATab} {k : Nat} {o : AObj}, aTabs st ren T → T.get k = some o → k < ren.length ∧ (∃ e sz rows, o = .row e sz rows) ∧ st.tab.get (ren.getD k 0) = some o
  | [], k, o, _, h => by cases h
  | (j, oo) :: T, k, o, hp, h => by
    rw [ATab.get_cons] at h
    split at h
    · rename_i e
      subst e
      subst h
      obtain ⟨h1, ⟨e, sz, rows, h2⟩, h3⟩ := hp.1
      cases h2
      exact ⟨h1, ⟨e, sz, rows, rfl⟩, h3⟩
    · exact tabs_get hp.2 h
theorem asAddr_of_load {t : TypeId} {v u : Value} (h : (Instr.loadAt t v).run P w = .ok u w) : (do loadVar t (← asAddr v) : Sem Value).run P w = .ok u w := by
  cases v with
  | pointer p =>
    cases p with
    | none => simp [Instr.loadAt, Instr.sureAddr, Sem.run_bind] at h
    | some ad => simpa [Instr.loadAt, Instr.sureAddr, asAddr, Sem.run_bind] using h
  | _ => simp [Instr.loadAt, Instr.sureAddr, Sem.run_bind] at h
def resVar (tmps : Array Value) : ResultVar → Sem Value
  | .tmp t => pure (tmps.getD t undef)
  | .cell p t => do loadVar t (← asAddr (tmps.getD p undef))
theorem results_eq (fn : Func) (tmps : Array Value) : results fn tmps = (do
    let vs ← fn.results.mapM (resVar tmps)
    pure (if h : vs.size = 1 then vs[0] else .tuple vs)) := by
  unfold results
  congr 1
theorem resL_ok (h : Conc cx a w st L) : ∀ (l : List ResultVar) (K : List AV → Prop), aResL P st l K →
    ∃ vs avs, K avs ∧ vs.length = avs.length ∧ (∀ (j : Nat) (v : Value) (av : AV), vs[j]? = some v → avs[j]? = some av → RVx cx w st.tab L v av) ∧
      (l.mapM (resVar a.tmps) : Sem (List Value)).run P w = .ok vs w
  | [], K, hp => ⟨[], [], hp, rfl, by simp, by simp⟩
  | .tmp t :: l, K, hp => by
    obtain ⟨vs, avs, h1, h2, h3, h4⟩ := resL_ok h l _ hp
    refine ⟨a.tmps.getD t undef :: vs, st.get t :: avs, h1, by simp [h2], fun j v av h5 h6 => ?_, ?_⟩
    · cases j with
      | zero =>
        cases h5
        cases h6
        exact (h.env t).1
      | succ j => exact h3 j v av (by simpa using h5) (by simpa using h6)
    · simp only [List.mapM_cons, resVar, Sem.run_bind, Sem.run_pure, Result.andThen_ok, h4]
  | .cell p ty :: l, K, hp => by
    obtain ⟨u, au, h1, h2, h3, h4⟩ := (load_ok (nx := st.next) h.lay (fun id o hid => (h.young id o hid).2) (h.env p).1 hp).one
    obtain ⟨vs, avs, h5, h6, h7, h8⟩ := resL_ok h l _ h1
    refine ⟨u :: vs, au :: avs, h5, by simp [h6], fun j v av h9 h10 => ?_, ?_⟩
    · cases j with
      | zero =>
        cases h9
        cases h10
        exact h2
      | succ j => exact h7 j v av (by simpa using h9) (by simpa using h10)
    · have := asAddr_of_load (h4 w (Below.refl _ _))
      simp only [List.mapM_cons, resVar]
      rw [Sem.run_bind, this]
      simp only [Sem.run_bind, Sem.run_pure, Result.andThen_ok, h8]
theorem res_ok {fn : Func} {K : AV → Prop} (h : Conc cx a w st L) (hp : aResL P st fn.results.toList fun avs => K (aOne avs)) : ∃ v av, K av ∧ RVx cx w st.tab L v av ∧ (results fn a.tmps).run P w = .ok v w := by
  obtain ⟨vs, avs, h1, h2, h3, h4⟩ := resL_ok h _ _ hp
  have hm : (results fn a.tmps).run P w = .ok (if h : vs.toArray.size = 1 then vs.toArray[0] else .tuple vs.toArray) w := by
    rw [results_eq, Sem.run_bind, Array.mapM_eq_mapM_toList]
    simp only [Sem.run_map, h4]
    rfl
  refine ⟨_, aOne avs, h1, ?_, hm⟩
  clear hm h4 h1
  match vs, avs, h2, h3 with
  | [v], [av], _, h3 => exact h3 0 v av rfl rfl
  | [], [], _, h3 => exact .tup _ _ rfl (by simp)
  | v :: v' :: vs, av :: av' :: avs, h2, h3 =>
    simp only [aOne, List.size_toArray, List.length_cons]
    rw [dif_neg (by omega)]
    exact .tup _ _ (by simpa using h2) fun j x av h4 h5 => h3 j x av (by simpa using h4) h5
end
/-! ### the end of loops over a function -/
/-- but for what is no cells all is as it was -/
structure KeepM (base : Nat) (w w' : World) : Prop where
  below : Below base w w'
  size : w'.heap.size = w.heap.size
  cell : ∀ p, w'.cell? p = w.cell? p
  cells : ∀ (k : Nat) cs t x, w.heap[k]? = some (Obj.cells cs t x) → w'.heap[k]? = some (Obj.cells cs t x)
  maps : ∀ (k : Nat) es c, w.heap[k]? = some (Obj.map es c) → w'.heap[k]? = some (Obj.map es c)
theorem KeepM.refl (base : Nat) (w : World) : KeepM base w w := ⟨Below.refl _ _, rfl, fun _ => rfl, fun _ _ _ _ h => h, fun _ _ _ h => h⟩
theorem KeepM.trans {base : Nat} {w w' w'' : World} (h : KeepM base w w') (k : KeepM base w' w'') : KeepM base w w'' :=
  ⟨h.below.trans k.below, k.size.trans h.size, fun p => (k.cell p).trans (h.cell p), fun b cs t x hb => k.cells b cs t x (h.cells b cs t x hb), fun b es c hb => k.maps b es c (h.maps b es c hb)⟩
theorem KeepM.put {base k : Nat} {w : World} {o : Option (List Deferred)} (hk : base ≤ k) (h : w.heap[k]? = some (.deferred o)) (o' : Option (List Deferred)) : KeepM base w (w.putObj k (.deferred o')) := by
  have hother : ∀ j, j ≠ k → (w.putObj k (.deferred o')).heap[j]? = w.heap[j]? := fun j hj => World.putObj_heap_other hj
  have hlt : k < w.heap.size := (Array.getElem?_eq_some_iff.1 h).1
  refine ⟨⟨rfl, rfl, rfl, by simp, fun j hj => hother j (by omega)⟩, by simp, fun p => ?_, fun j cs t x hj => ?_, fun j es c hj => ?_⟩
  · by_cases e : p.block = k
    · have h1 : (w.putObj k (.deferred o')).heap[p.block]? = some (.deferred o') := by rw [e]; exact World.putObj_heap_same hlt
      have h2 : w.heap[p.block]? = some (.deferred o) := by rw [e]; exact h
      unfold World.cell?
      rw [h1, h2]
    · exact World.cell?_of_block (hother p.block e)
  · by_cases e : j = k
    · rw [e, h] at hj
      cases hj
    · rw [hother j e]
      exact hj
  · by_cases e : j = k
    · rw [e, h] at hj
      cases hj
    · rw [hother j e]
      exact hj
theorem KeepM.turn {base k : Nat} {w : World} {o : Loop} (hk : base ≤ k) (h : w.heap[k]? = some (.loop o)) (o' : Loop) : KeepM base w (w.putObj k (.loop o')) := by
  have hother : ∀ j, j ≠ k → (w.putObj k (.loop o')).heap[j]? = w.heap[j]? := fun j hj => World.putObj_heap_other hj
  have hlt : k < w.heap.size := (Array.getElem?_eq_some_iff.1 h).1
  refine ⟨⟨rfl, rfl, rfl, by simp, fun j hj => hother j (by omega)⟩, by simp, fun p => ?_, fun j cs t x hj => ?_, fun j es c hj => ?_⟩
  · by_cases e : p.block = k
    · have h1 : (w.putObj k (.loop o')).heap[p.block]? = some (.loop o') := by rw [e]; exact World.putObj_heap_same hlt
      have h2 : w.heap[p.block]? = some (.loop o) := by rw [e]; exact h
      unfold World.cell?
      rw [h1, h2]
    · exact World.cell?_of_block (hother p.block e)
  · by_cases e : j = k
    · rw [e, h] at hj
      cases hj
    · rw [hother j e]
      exact hj
  · by_cases e : j = k
    · rw [e, h] at hj
      cases hj
    · rw [hother j e]
      exact hj
section
variable {cx : Cx} {a : Act} {w w' : World} {st : ASt} {L : Nat → Value}
theorem conc_keep (h : Conc cx a w st L) (hk : KeepM cx.w0.heap.size w w') {ds : List Deferred} (hm : Marks cx.w0.heap.size w' (Sx cx w' st.tab L) ds) : Conc cx { a with defers := ds } w' st L := by
  have hS : ∀ b, Sx cx w st.tab L b → Sx cx w' st.tab L b := fun b hb => ⟨by rw [hk.size]; exact hb.1, hb.2.1, hb.2.2⟩
  have hrv : ∀ {x av nx}, RVx cx w st.tab L x av → av.lt nx → RVx cx w' st.tab L x av := fun hr hl => hr.mono hl (fun p _ => hk.cell p) hS (fun _ _ _ h => h)
  refine ⟨⟨h.lay.below.trans (belowX hk.below), fun id o hid => ?_, h.lay.sep, fun b hb => ⟨by rw [hk.size]; exact (h.lay.ex b hb).1, (h.lay.ex b hb).2⟩⟩, h.size, hm, h.young, fun t => ⟨hrv (h.env t).1 (h.env t).2, (h.env t).2⟩⟩
  have ho := h.lay.objs id o hid
  have hy := (h.young id o hid).2
  cases o with
  | box t cells =>
    obtain ⟨g, cs, h1, h2, h3, h4, h5⟩ := ho
    exact ⟨g, cs, h1, h2, hk.cells _ _ _ _ h3, h4, fun j x av h6 h7 => ⟨hrv (h5 j x av h6 h7).1 (ltL_iff.1 hy _ (List.mem_of_getElem? h7)), (h5 j x av h6 h7).2⟩⟩
  | row e sz rows =>
    obtain ⟨h1, xs, hown, h2, h3⟩ := ho
    refine ⟨h1, xs, ⟨hown.1, ?_⟩, h2, fun i j row av ha hb => ?_⟩
    · rcases hown.2 with hn | ⟨g, cap, cur, h4, hb, hh, rest⟩
      · exact .inl hn
      · exact .inr ⟨g, cap, cur, h4, hb, hk.cells _ _ _ _ hh, rest⟩
    · obtain ⟨x, hx, hr⟩ := h3 i j row av ha hb
      exact ⟨x, hx, hr.mono (fun p _ => hk.cell p) hS⟩
  | map ents =>
    obtain ⟨b, es, ck, h1, h2, h3, h4⟩ := ho
    exact ⟨b, es, ck, h1, h2, hk.maps _ _ _ h3, h4⟩
  | nest e sz rows =>
    obtain ⟨h1, xs, hown, h2, h3⟩ := ho
    refine ⟨h1, xs, ⟨hown.1, ?_⟩, h2, fun i j row av ha hb => ?_⟩
    · rcases hown.2 with hn | ⟨g, cap, cur, h4, hb, hh, rest⟩
      · exact .inl hn
      · exact .inr ⟨g, cap, cur, h4, hb, hk.cells _ _ _ _ hh, rest⟩
    · obtain ⟨x, hx, hr⟩ := h3 i j row av ha hb
      exact ⟨x, hx, hrv hr (ltL_iff.1 (hy row (List.mem_of_getElem? ha)) _ (List.mem_of_getElem? hb))⟩
  | ghost vs env => exact ⟨ho.1, fun t ht => hrv (ho.2 t ht) (envLt_aget hy t)⟩
end
theorem conc_keepM {cx : Cx} {a : Act} {w w' : World} {st : ASt} {L : Nat → Value} (h : Conc cx a w st L) (hk : KeepM cx.w0.heap.size w w') : Conc cx { a with defers := [] } w' st L := conc_keep h hk (Marks.nil _ _ _)
theorem leaves_marks {P : Program} {fn : Func} {tmps : Array Value} {R : Ending → World → Prop} {base : Nat} {S : Nat → Prop} : ∀ (ds : List Deferred) (w : World), Marks base w S ds → (∀ w', KeepM base w w' → LeavesIn Fence.wide 0 P fn tmps R [] .returning w') → LeavesInM Fence.wide 0 P fn tmps R ds .returning w
  | [], w, _, h => h w (KeepM.refl _ _)
  | d :: ds, w, hm, h => by
    obtain ⟨k, rfl, h1, h2, h3⟩ := hm.2 d (List.mem_cons_self ..)
    have hk := KeepM.put h1 h2 none
    refine ⟨by simp, .inl ⟨k, _, rfl, run_takeDeferred h2, leaves_marks (S := S) ds _ ⟨(List.nodup_cons.1 hm.1).2, fun d' hd' => ?_⟩ fun w' hw' => h w' (hk.trans hw')⟩⟩
    obtain ⟨k', rfl, h4, h5, h6⟩ := hm.2 d' (List.mem_cons_of_mem _ hd')
    refine ⟨k', rfl, h4, ?_, h6⟩
    have hne : k' ≠ k := fun e => (List.nodup_cons.1 hm.1).1 (by rw [← e]; exact hd')
    rw [World.putObj_heap_other hne]
    exact h5
/-- A FUNCTION's CONTRACT OUT OF ITS CODE. -/
theorem arel_of_wp {P : Program} {f : FuncId} {fn : Func} {c : Code} (hf : P.funcs[f]? = some fn) (hb : fn.body = some c) (hname : (fn.name == "runtime.NumGoroutine") = false) {args : List AV} {Post : Res → Prop} {n : Nat} (hnt : fn.ntmps = n) {rs : List ResultVar} (hrs : fn.results = rs.toArray) (hn : Nat.ble args.length n = true)
    (h : ∀ (cx : Cx) (a : Act) (w : World) (L : Nat → Value), Conc cx a w ⟨n, envOf 0 args, [], 0⟩ L → c.wp P (AfterC cx (aRetR P rs Post)) a w) : ARel P f args Post := by
  have hn := Nat.le_of_ble_eq_true hn
  subst hnt
  have hrs : fn.results.toList = rs := by rw [hrs]
  refine ⟨fun vs w => ?_, fun S w vs hS hvs hv => ?_⟩
  · have : ¬ fn.name = "runtime.NumGoroutine" := by simpa using hname
    simp [callFunc, Sem.run_bind, hf, this, hb]
  · let cx : Cx := (Cx.mk0 S w hS)
    refine (callsIn_wide (n := 0)).1 (callsIn_of_wp_marks hf hb trivial (wpIn_wide.2 ?_))
    have hL : Lay cx w [] (fun _ => undef) := ⟨belowX (Below.refl _ _), fun id o h => (by cases h), fun id id' o o' g h => (by cases h), fun b hb => hb.elim⟩
    have hC : Conc cx { tmps := vs ++ Array.replicate (fn.ntmps - vs.size) undef, defers := [] } w ⟨fn.ntmps, envOf 0 args, [], 0⟩ (fun _ => undef) := by
      refine ⟨hL, ?_, Marks.nil _ _ _, fun id o h => (by cases h), fun t => ?_⟩
      · simp
        omega
      have e : (⟨fn.ntmps, envOf 0 args, [], 0⟩ : ASt).get t = args.getD t .any := by
        show (if t < fn.ntmps then aget (envOf 0 args) t else .any) = _
        rw [aget_envOf]
        split
        · simp
        · simp [List.getD, List.getElem?_eq_none (show args.length ≤ t by omega)]
      rw [e]
      by_cases ht : t < args.length
      · have ht' : t < vs.size := by omega
        have e2 : (vs ++ Array.replicate (fn.ntmps - vs.size) undef).getD t undef = vs[t] := by
          rw [Array.getD_eq_getD_getElem?, Array.getElem?_append_left ht', Array.getElem?_eq_getElem ht']
          rfl
        have e3 : args.getD t .any = args[t] := by simp [List.getD, ht]
        rw [e2, e3]
        have := hv t _ _ (Array.getElem?_eq_getElem ht') (List.getElem?_eq_getElem ht)
        exact ⟨.tree (this.mono (fun _ _ => rfl) fun b hb => ⟨hS b hb, ⟨.inl hb, fun h => h⟩, fun id o h => by cases h⟩), this.lt 0⟩
      · have e3 : args.getD t .any = .any := by simp [List.getD, List.getElem?_eq_none (Nat.le_of_not_lt ht)]
        rw [e3]
        exact ⟨.tree (.any _), trivial⟩
    refine Code.wp_mono (fun e a w' ⟨st, L, h1, h2⟩ => ?_) (h cx _ w _ hC)
    rw [← hrs] at h1
    have key : (aResL P st fn.results.toList fun avs => ∃ R, Post R ∧ R.Ok ∧ aGives R st (aOne avs)) → LeavesInM Fence.wide 0 P fn a.tmps (fun e w' => ∃ v' L R, Post R ∧ R.Ok ∧ e = .returned v' ∧ Lay cx w' R.tab L ∧ RVx cx w' R.tab L v' R.r) a.defers .returning w' := fun h1 => by
      refine leaves_marks _ _ h2.defers fun w2 hk2 => ?_
      have h2 := conc_keepM h2 hk2
      clear hk2
      generalize w2 = w' at h2
      obtain ⟨v, av, ⟨R, hPost, hok, ren, hnd, hr, ht⟩, h4, h5⟩ := res_ok (K := fun av => ∃ R, Post R ∧ R.Ok ∧ aGives R st av) h2 h1
      refine ⟨v, h5, v, fun k => L (ren.getD k 0), R, hPost, hok, rfl, ?_⟩
      subst hr
      have hget := fun k o => tabs_get (st := st) (T := R.tab) (k := k) (o := o) ht
      have hsub : ∀ b, Sx cx w' st.tab L b → Sx cx w' R.tab (fun k => L (ren.getD k 0)) b := fun b hb => ⟨hb.1, hb.2.1, fun k o hk => hb.2.2 _ o (hget k o hk).2.2⟩
      refine ⟨⟨h2.lay.below, fun k o hk => ?_, fun k k' o o' g h6 h7 h8 h9 => ?_, fun b hb => hb.elim⟩, rv_ren hsub (fun k p hk => ?_) _ _ h4⟩
      · obtain ⟨h6, ⟨e, sz, rows, rfl⟩, h7⟩ := hget k o hk
        obtain ⟨h8, xs, h9, h10, h11⟩ := h2.lay.objs _ _ h7
        refine ⟨h8, xs, h9, h10, fun i j row av h12 h13 => ?_⟩
        obtain ⟨x, hx, hrt⟩ := h11 i j row av h12 h13
        exact ⟨x, hx, hrt.mono (fun _ _ => rfl) hsub⟩
      · obtain ⟨ha, _, hb⟩ := hget k o h6
        obtain ⟨ha', _, hb'⟩ := hget k' o' h7
        have := h2.lay.sep _ _ o o' g hb hb' h8 h9
        simp only [List.getD, List.getElem?_eq_getElem ha, List.getElem?_eq_getElem ha', Option.getD_some] at this
        have hp := List.pairwise_iff_getElem.1 hnd
        rcases Nat.lt_trichotomy k k' with hlt | he | hlt
        · exact absurd this (hp k k' ha ha' hlt)
        · exact he
        · exact absurd this.symm (hp k' k ha' ha hlt)
      · unfold Kx at *
        cases ho : R.tab.get k with
        | none => simp [ho] at hk
        | some o =>
          rw [(hget k o ho).2.2]
          simpa [ho] using hk
    cases e with
    | normal => exact key h1
    | ret => exact key h1
    | _ => exact h1.elim
theorem retL_mono {P : Program} {st : ASt} : ∀ {l : List ResultVar} {K K' : List AV → Prop}, (∀ avs, K avs → K' avs) → aResL P st l K → aResL P st l K'
  | [], K, K', h, hp => h _ hp
  | .tmp t :: l, K, K', h, hp => retL_mono (l := l) (fun avs h2 => h _ h2) hp
  | .cell p ty :: l, K, K', h, hp => by
    have step : ∀ av, (aResL P st l fun avs => K (av :: avs)) → aResL P st l fun avs => K' (av :: avs) := fun av => retL_mono (l := l) (fun avs h2 => h _ h2)
    have take : ∀ cs, aTake P ty cs (fun av => aResL P st l fun avs => K (av :: avs)) → aTake P ty cs (fun av => aResL P st l fun avs => K' (av :: avs)) := fun cs ⟨h1, h2, h3⟩ => ⟨h1, h2, by
      split at h3
      · rw [if_pos (by assumption)]; exact step _ h3
      · rw [if_neg (by assumption)]; exact step _ h3⟩
    unfold aResL aLoad at hp ⊢
    split at hp
    · exact take _ hp
    · split at hp
      · rename_i h0
        first | simp only [h0] | skip
        exact ⟨hp.1, take _ hp.2⟩
      · rename_i h0
        first | simp only [h0] | skip
        exact ⟨hp.1, take _ hp.2⟩
      · rename_i h0
        first | simp only [h0] | skip
        exact ⟨hp.1, take _ hp.2⟩
      · exact hp.elim
    · exact hp.elim
theorem aRet_R {P : Program} {rs : List ResultVar} {R : Res} (hok : R.Ok) (e : Exit) (st : ASt) (h : aRet P rs R e st) : aRetR P rs (fun R' => R' = R) e st := by
  cases e with
  | normal => exact retL_mono (fun avs h => ⟨R, rfl, hok, h⟩) h
  | ret => exact retL_mono (fun avs h => ⟨R, rfl, hok, h⟩) h
  | _ => exact h.elim
theorem adet_of_wp {P : Program} {f : FuncId} {fn : Func} {c : Code} (hf : P.funcs[f]? = some fn) (hb : fn.body = some c) (hname : (fn.name == "runtime.NumGoroutine") = false) {args : List AV} {R : Res} {n : Nat} (hnt : fn.ntmps = n) {rs : List ResultVar} (hrs : fn.results = rs.toArray) (hn : Nat.ble args.length n = true)
    (hok : R.Ok) (h : ∀ (cx : Cx) (a : Act) (w : World) (L : Nat → Value), Conc cx a w ⟨n, envOf 0 args, [], 0⟩ L → c.wp P (AfterC cx (aRet P rs R)) a w) : ADet P f args R :=
  arel_of_wp hf hb hname hnt hrs hn fun cx a w L hc => Code.wp_mono (fun e a w ⟨st, L, h1, h2⟩ => ⟨st, L, aRet_R hok e st h1, h2⟩) (h cx a w L hc)
theorem arel_of_code {P : Program} (hm : P.follows .mixedOrders = true) {f : FuncId} {fn : Func} {c : Code} (hf : P.funcs[f]? = some fn) (hb : fn.body = some c) (hname : (fn.name == "runtime.NumGoroutine") = false) {args : List AV} {Post : Res → Prop} {n : Nat} (hnt : fn.ntmps = n) {rs : List ResultVar} (hrs : fn.results = rs.toArray) (hn : Nat.ble args.length n = true)
    (h : aCode P c (aRetR P rs Post) ⟨n, envOf 0 args, [], 0⟩) : ARel P f args Post :=
  arel_of_wp hf hb hname hnt hrs hn fun cx a w L hc => code_ok hm c _ a w _ L hc h
theorem adet_of_code {P : Program} (hm : P.follows .mixedOrders = true) {f : FuncId} {fn : Func} {c : Code} (hf : P.funcs[f]? = some fn) (hb : fn.body = some c) (hname : (fn.name == "runtime.NumGoroutine") = false) {args : List AV} {R : Res} {n : Nat} (hnt : fn.ntmps = n) {rs : List ResultVar} (hrs : fn.results = rs.toArray) (hn : Nat.ble args.length n = true)
    (hok : R.Ok) (h : aCode P c (aRet P rs R) ⟨n, envOf 0 args, [], 0⟩) : ADet P f args R :=
  adet_of_wp hf hb hname hnt hrs hn hok fun cx a w L hc => code_ok hm c _ a w _ L hc h
end
section
open Go.RowKit

def envIn (st : ASt) : List (Nat × AV) → Prop
  | [] => True
  | (t, av) :: l => st.get t = av ∧ envIn st l
def tabIn (st : ASt) : ATab → Prop
  | [] => True
  | (id, o) :: l => st.tab.get id = o ∧ tabIn st l
def tabLt (nx : Nat) : ATab → Prop
  | [] => True
  | (id, some o) :: l => (id < nx ∧ o.lt nx) ∧ tabLt nx l
  | (_, none) :: l => tabLt nx l
theorem envIn_get {st : ASt} {nx : Nat} : ∀ {l : List (Nat × AV)} (t : Nat), envIn st l → envLt nx l → (aget l t = st.get t ∨ aget l t = .any) ∧ (aget l t).lt nx
  | [], t, _, _ => ⟨.inr rfl, trivial⟩
  | (k, av) :: l, t, h, hl => by
    unfold aget
    split
    · rename_i e
      rw [e]
      exact ⟨.inl h.1.symm, hl.1⟩
    · exact envIn_get t h.2 hl.2
theorem tabIn_get {st : ASt} {nx : Nat} : ∀ {l : ATab} {id : Nat} {o : AObj}, tabIn st l → tabLt nx l → l.get id = some o → st.tab.get id = some o ∧ id < nx ∧ o.lt nx
  | [], id, o, _, _, h => by cases h
  | (k, oo) :: l, id, o, h, hl, hg => by
    rw [ATab.get_cons] at hg
    split at hg
    · rename_i e
      subst e
      subst hg
      exact ⟨h.1, hl.1.1, hl.1.2⟩
    · cases oo with
      | none => exact tabIn_get h.2 hl hg
      | some => exact tabIn_get h.2 hl.2 hg
/-- what is needed no more is let go -/
theorem weak_cut {st : ASt} {n nx : Nat} {env : List (Nat × AV)} {tab : ATab} (hn : st.n = n) (he : envIn st env) (ht : tabIn st tab) (hl : envLt nx env) (hl2 : tabLt nx tab) : Weak st ⟨n, env, tab, nx⟩ := by
  intro cx a w L h
  have hsub : ∀ id o, tab.get id = some o → st.tab.get id = some o := fun id o hid => (tabIn_get ht hl2 hid).1
  have hS : ∀ b, Sx cx w st.tab L b → Sx cx w tab L b := fun b hb => ⟨hb.1, hb.2.1, fun id o hid => hb.2.2 id o (hsub id o hid)⟩
  have hK : ∀ id p, Kx tab L id = some p → Kx st.tab L id = some p := fun id p hk => by
    unfold Kx at *
    cases ho : tab.get id with
    | none => simp [ho] at hk
    | some o => rw [hsub id o ho]; simpa [ho] using hk
  have hrv : ∀ x av, RVx cx w st.tab L x av → RVx cx w tab L x av := fun x av hr => by
    have : ∀ nx', av.lt nx' → RVx cx w tab L x av := fun nx' hlt => hr.mono hlt (fun _ _ => rfl) hS (fun id p _ hk => hK id p hk)
    induction hr with
    | tree h => exact .tree (h.mono (fun _ _ => rfl) hS)
    | osl x id h => exact .osl x id fun sz v e => h sz v (hK id _ e)
    | op x id i j h => exact .op x id i j fun sz v e => h sz v (hK id _ e)
    | agg xs cs hn hr ih => exact .agg xs cs hn fun j x av h1 h2 => ih j x av h1 h2 fun nx' hlt => (hr j x av h1 h2).mono hlt (fun _ _ => rfl) hS (fun id p _ hk => hK id p hk)
    | tup xs cs hn hr ih => exact .tup xs cs hn fun j x av h1 h2 => ih j x av h1 h2 fun nx' hlt => (hr j x av h1 h2).mono hlt (fun _ _ => rfl) hS (fun id p _ hk => hK id p hk)
    | fn fi xs cs hn hr ih => exact .fn fi xs cs hn fun j x av h1 h2 => ih j x av h1 h2 fun nx' hlt => (hr j x av h1 h2).mono hlt (fun _ _ => rfl) hS (fun id p _ hk => hK id p hk)
    | bfn fi xs cs hn hr ih => exact .bfn fi xs cs hn fun j x av h1 h2 => ih j x av h1 h2 fun nx' hlt => (hr j x av h1 h2).mono hlt (fun _ _ => rfl) hS (fun id p _ hk => hK id p hk)
  refine ⟨L, ⟨⟨h.lay.below, fun id o hid => ?_, fun id id' o o' g h1 h2 => h.lay.sep id id' o o' g (hsub id o h1) (hsub id' o' h2), fun b hb => ⟨(h.lay.ex b hb).1, fun id o hid => (h.lay.ex b hb).2 id o (hsub id o hid)⟩⟩, h.size.trans hn, h.defers.mono (fun _ _ => rfl) hS, fun id o hid => (tabIn_get ht hl2 hid).2, fun t => ?_⟩, hS⟩
  · have ho := h.lay.objs id o (hsub id o hid)
    have hext : Ext cx w st.tab L 0 w tab L := ⟨fun _ _ => rfl, hS, fun id p hlt => by omega⟩
    cases o with
    | box t cells =>
      obtain ⟨g, cs, h1, h2, h3, h4, h5⟩ := ho
      exact ⟨g, cs, h1, h2, h3, h4, fun j x av h6 h7 => ⟨hrv x av (h5 j x av h6 h7).1, (h5 j x av h6 h7).2⟩⟩
    | row e sz rows =>
      obtain ⟨h1, xs, h2, h3, h4⟩ := ho
      refine ⟨h1, xs, h2, h3, fun i j row av h5 h6 => ?_⟩
      obtain ⟨x, hx, hr⟩ := h4 i j row av h5 h6
      exact ⟨x, hx, hext.rt hr⟩
    | map ents => exact ho
    | nest e sz rows =>
      obtain ⟨h1, xs, h2, h3, h4⟩ := ho
      refine ⟨h1, xs, h2, h3, fun i j row av h5 h6 => ?_⟩
      obtain ⟨x, hx, hr⟩ := h4 i j row av h5 h6
      exact ⟨x, hx, hrv x av hr⟩
    | ghost vs env => exact ⟨ho.1, fun t ht => hrv _ _ (ho.2 t ht)⟩
  · obtain ⟨h1, h2⟩ := envIn_get t he hl
    show RVx cx w tab L _ (if t < n then aget env t else .any) ∧ (if t < n then aget env t else .any).lt nx
    split
    case isFalse => exact ⟨.tree (.any _), trivial⟩
    refine ⟨?_, h2⟩
    rcases h1 with h1 | h1
    · rw [h1]
      exact hrv _ _ (h.env t).1
    · rw [h1]
      exact .tree (.any _)
theorem Weak.trans {st st' st'' : ASt} (h : Weak st st') (h2 : Weak st' st'') : Weak st st'' := fun cx a w L hc => (h cx a w L hc).elim fun L' hc' => (h2 cx a w L' hc'.1).elim fun L2 h3 => ⟨L2, h3.1, fun b hb => h3.2 b (hc'.2 b hb)⟩
def renEnv (l : List Nat) : List (Nat × AV) → List (Nat × AV)
  | [] => []
  | (t, av) :: r => (t, av.ren l) :: renEnv l r
theorem renEnv_get (l : List Nat) : ∀ (r : List (Nat × AV)) (t : Nat), aget (renEnv l r) t = (aget r t).ren l
  | [], t => rfl
  | (q, av) :: r, t => by
    unfold renEnv aget
    split
    · rfl
    · exact renEnv_get l r t
def AObj.ren (l : List Nat) : AObj → AObj
  | .box t cells => .box t (AV.renL l cells)
  | .row e sz rows => .row e sz rows
  | .nest e sz rows => .nest e sz (rows.map (AV.renL l))
  | .map ents => .map ents
  | .ghost vs env => .ghost vs (renEnv l env)
theorem AObj.ren_sz (l : List Nat) (o : AObj) : (o.ren l).sz = o.sz := by cases o <;> simp [AObj.ren, AObj.sz, renL_map]
def envInR (st : ASt) (ids : List Nat) : List (Nat × AV) → Prop
  | [] => True
  | (t, av) :: l => st.get t = av.ren ids ∧ envInR st ids l
def tabInR (st : ASt) (ids : List Nat) : ATab → Prop
  | [] => True
  | (id, some o) :: l => (id < ids.length ∧ st.tab.get (ids.getD id 0) = some (o.ren ids)) ∧ tabInR st ids l
  | (_, none) :: l => tabInR st ids l
theorem envInR_get {st : ASt} {ids : List Nat} {nx : Nat} : ∀ {l : List (Nat × AV)} (t : Nat), envInR st ids l → envLt nx l → ((aget l t).ren ids = st.get t ∨ aget l t = .any) ∧ (aget l t).lt nx
  | [], t, _, _ => ⟨.inr rfl, trivial⟩
  | (k, av) :: l, t, h, hl => by
    unfold aget
    split
    · rename_i e
      rw [e]
      exact ⟨.inl h.1.symm, hl.1⟩
    · exact envInR_get t h.2 hl.2
theorem tabInR_get {st : ASt} {ids : List Nat} {nx : Nat} : ∀ {l : ATab} {id : Nat} {o : AObj}, tabInR st ids l → tabLt nx l → l.get id = some o → (id < ids.length ∧ st.tab.get (ids.getD id 0) = some (o.ren ids)) ∧ id < nx ∧ o.lt nx
  | [], id, o, _, _, h => by cases h
  | (k, some oo) :: l, id, o, h, hl, hg => by
    rw [ATab.get_cons] at hg
    split at hg
    · rename_i e
      subst e
      cases hg
      exact ⟨h.1, hl.1.1, hl.1.2⟩
    · exact tabInR_get h.2 hl.2 hg
  | (k, none) :: l, id, o, h, hl, hg => by
    rw [ATab.get_cons] at hg
    split at hg
    · cases hg
    · exact tabInR_get (l := l) h hl hg
/-- what is needed no more is let go, and the objects are numbered anew -/
theorem weak_ren {st : ASt} {n nx : Nat} {env : List (Nat × AV)} {tab : ATab} (ids : List Nat) (hnd : ids.Nodup) (hn : st.n = n) (he : envInR st ids env) (ht : tabInR st ids tab) (hl : envLt nx env) (hl2 : tabLt nx tab) : Weak st ⟨n, env, tab, nx⟩ := by
  intro cx a w L h
  have hget : ∀ k o, tab.get k = some o → k < ids.length ∧ st.tab.get (ids.getD k 0) = some (o.ren ids) := fun k o hk => (tabInR_get ht hl2 hk).1
  have hS : ∀ b, Sx cx w st.tab L b → Sx cx w tab (fun k => L (ids.getD k 0)) b := fun b hb => ⟨hb.1, hb.2.1, fun k o hk => hb.2.2 _ _ (hget k o hk).2⟩
  have hK : ∀ k p, Kx tab (fun k => L (ids.getD k 0)) k = some p → Kx st.tab L (ids.getD k 0) = some p := fun k p hk => by
    unfold Kx at *
    cases ho : tab.get k with
    | none => simp [ho] at hk
    | some o =>
      rw [(hget k o ho).2]
      simpa [ho, AObj.ren_sz] using hk
  refine ⟨fun k => L (ids.getD k 0), ⟨⟨h.lay.below, fun k o hk => ?_, fun k k' o o' g h6 h7 h8 h9 => ?_, fun b hb => ⟨(h.lay.ex b hb).1, fun k o hk => (h.lay.ex b hb).2 _ _ (hget k o hk).2⟩⟩, h.size.trans hn, h.defers.mono (fun _ _ => rfl) hS, fun id o hid => (tabInR_get ht hl2 hid).2, fun t => ?_⟩, hS⟩
  · obtain ⟨_, h7⟩ := hget k o hk
    have ho := h.lay.objs _ _ h7
    cases o with
    | box t cells =>
      obtain ⟨g, cs, h1, h2, h3, h4, h5⟩ := ho
      refine ⟨g, cs, h1, h2, h3, by simpa [renL_map] using h4, fun j x av h6 h8 => ?_⟩
      have h9 := h5 j x (av.ren ids) h6 (by rw [renL_map, List.getElem?_map, h8]; rfl)
      exact ⟨rv_ren hS hK av x h9.1, h9.2⟩
    | row e sz rows =>
      obtain ⟨h1, xs, h2, h3, h4⟩ := ho
      refine ⟨h1, xs, h2, h3, fun i j row av h5 h6 => ?_⟩
      obtain ⟨x, hx, hr⟩ := h4 i j row av h5 h6
      exact ⟨x, hx, hr.mono (fun _ _ => rfl) hS⟩
    | map ents => exact ho
    | nest e sz rows =>
      obtain ⟨h1, xs, h2, h3, h4⟩ := ho
      refine ⟨fun row hr => by simpa [renL_map] using h1 (AV.renL ids row) (List.mem_map.2 ⟨row, hr, rfl⟩), xs, by simpa using h2, h3, fun i j row av h5 h6 => ?_⟩
      obtain ⟨x, hx, hr⟩ := h4 i j (AV.renL ids row) (av.ren ids) (by rw [List.getElem?_map, h5]; rfl) (by rw [renL_map, List.getElem?_map, h6]; rfl)
      exact ⟨x, hx, rv_ren hS hK _ _ hr⟩
    | ghost vs env =>
      refine ⟨ho.1, fun t ht => rv_ren hS hK _ _ ?_⟩
      have h9 := ho.2 t ht
      rwa [renEnv_get] at h9
  · obtain ⟨ha, hb⟩ := hget k o h6
    obtain ⟨ha', hb'⟩ := hget k' o' h7
    have := h.lay.sep _ _ _ _ g hb hb' h8 h9
    simp only [List.getD, List.getElem?_eq_getElem ha, List.getElem?_eq_getElem ha', Option.getD_some] at this
    have hp := List.pairwise_iff_getElem.1 hnd
    rcases Nat.lt_trichotomy k k' with hlt | he | hlt
    · exact absurd this (hp k k' ha ha' hlt)
    · exact he
    · exact absurd this.symm (hp k' k ha' ha hlt)
  · obtain ⟨h1, h2⟩ := envInR_get t he hl
    show RVx cx w tab _ _ (if t < n then aget env t else .any) ∧ (if t < n then aget env t else .any).lt nx
    split
    case isFalse => exact ⟨.tree (.any _), trivial⟩
    refine ⟨?_, h2⟩
    rcases h1 with h1 | h1
    · refine rv_ren hS hK _ _ ?_
      rw [h1]
      exact (h.env t).1
    · rw [h1]
      exact .tree (.any _)
/-- no slice, seen as a slice of the call's own that is empty -/
theorem weak_nil {st : ASt} (t e sz : Nat) (hg : st.get t = .c (.slice none 0 0)) : Weak st ⟨st.n, (t, .osl st.next) :: st.env, (st.next, some (.row e sz [])) :: st.tab, st.next + 1⟩ := by
  intro cx a w L h
  have hv := (h.env t).1
  rw [hg] at hv
  have hv := hv.c_inv
  have hput : a.put (some t) (.slice none 0 0) = a := by
    unfold Act.put
    have : a.tmps.setIfInBounds t (.slice none 0 0) = a.tmps := by
      apply Array.ext (by simp)
      intro i h1 h2
      rw [Array.getElem_setIfInBounds]
      split
      · rename_i e
        subst e
        rw [← hv]
        simp [Array.getD, h2]
      · rfl
    simp only [this]
  refine ⟨updL L st.next (.slice none 0 0), ?_, fun b hb => ⟨hb.1, hb.2.1, fun k o hk hg => ?_⟩⟩
  rotate_left
  · have hk : ATab.get ((st.next, some (.row e sz [])) :: st.tab) k = some o := hk
    rw [ATab.get_cons] at hk
    unfold updL at hg
    split at hk
    · rename_i e1
      rw [if_pos e1] at hg
      simp [vblk] at hg
    · rename_i e1
      rw [if_neg e1] at hg
      exact hb.2.2 k o hk hg
  have := conc_new (ob := .row e sz []) (v := .slice none 0 0) (x := .slice none 0 0) (av := .osl st.next) h (Below.refl _ _) (fun g hg => by simp [vblk] at hg) (fun hext => ⟨by simp, [], ownsR_nil .., by simp, by simp⟩) trivial (fun hext => ?_) (Nat.lt_succ_self _) (some t)
  · rw [hput] at this
    exact this
  · refine .osl _ _ fun sz u hk => ?_
    simp [Kx, ATab.get_cons, updL] at hk
    exact hk.2
/-- a loop's slot as a count -/
theorem weak_cut1 {st : ASt} {n nx : Nat} {env : List (Nat × AV)} {tab : ATab} (h : st.n = n ∧ (envIn st env ∧ tabIn st tab) ∧ envLt nx env ∧ tabLt nx tab) : Weak st ⟨n, env, tab, nx⟩ := weak_cut h.1 h.2.1.1 h.2.1.2 h.2.2.1 h.2.2.2
theorem weak_ren1 {st : ASt} {n nx : Nat} {env : List (Nat × AV)} {tab : ATab} (ids : List Nat) (h : ids.Nodup ∧ st.n = n ∧ (envInR st ids env ∧ tabInR st ids tab) ∧ envLt nx env ∧ tabLt nx tab) : Weak st ⟨n, env, tab, nx⟩ := weak_ren ids h.1 h.2.1 h.2.2.1.1 h.2.2.1.2 h.2.2.2.1 h.2.2.2.2
def slotN (st : ASt) (t : Nat) : Nat := match st.get t with | .c (.int _ n) => n.toNat | _ => 0

theorem wrap_in {x : Int} (h1 : -9223372036854775808 ≤ x) (h2 : x ≤ 9223372036854775807) : IntKind.i64.wrap x = x := by
  rw [IntKind.wrap_i64]; omega
theorem wrapK {k : Nat} (h : k ≤ 4611686018427387904) : IntKind.i64.wrap ((k : Int) + 1) = ((k + 1 : Nat) : Int) := by
  rw [wrap_in (by omega) (by omega)]; omega
/-- the answer of a function that gives back one value -/
def val (v : Value) : Res := ⟨.c v, [], 0⟩
theorem val_ok (v : Value) : (val v).Ok := ⟨fun id o h => (by cases h), trivial⟩
theorem gives_val {v : Value} {st : ASt} {av : AV} (h : av = .c v) : aGives (val v) st av := ⟨[], List.nodup_nil, by rw [h]; rfl, trivial⟩

theorem aGives_val {v : Value} {st : ASt} {av : AV} : aGives (val v) st av = (av = .c v) := propext ⟨fun ⟨ren, _, h, _⟩ => h.symm, gives_val⟩

/-! ### plain data as abstract values -/
abbrev eI (n : Int) : AV := .c (.int .i64 n)
abbrev eB (b : Bool) : AV := .c (.bool b)
abbrev eS (s : ByteArray) : AV := .c (.string s)
abbrev sI (l : List Int) : AV := .sl 1 (l.map fun n => [eI n])
theorem row_at {α : Type} {f : α → List AV} {l : List α} {k : Nat} (h : k < l.length) : (l.map f)[k]?.getD [] = f l[k] := by
  rw [List.getElem?_map, List.getElem?_eq_getElem h]; rfl
theorem callD {P : Program} {g : FuncId} {args : List AV} {v : Value} {K : Value → Prop} (h : ADet P g args (val v)) (hk : K v) : ∃ v, ADet P g args ⟨.c v, [], 0⟩ ∧ K v := ⟨v, h, hk⟩
theorem roundI {I : ASt → Prop} {μ : ASt → Nat} {n : Nat} {st st' : ASt} (hw : Weak st st') (hI : I st') (hm : μ st' < n) : aRound I μ n st := ⟨st', hw, hI, hm⟩
end
section
open Go.RowKit
theorem tyA_32 : tyAgg Try.prog 32 = true := by kernel_rfl
theorem tyS_32 : tySize Try.prog 32 = 10 := by kernel_rfl
theorem tyA_35 : tyAgg Try.prog 35 = true := by kernel_rfl
theorem tyS_35 : tySize Try.prog 35 = 5 := by kernel_rfl
theorem tyE_23 : tyElem Try.prog 23 = (2, 1) := by kernel_rfl
theorem tyK_23 : tyK Try.prog 23 = TyK.slice := by kernel_rfl
theorem tyK_3 : tyK Try.prog 3 = TyK.int := by kernel_rfl
theorem tyR_23 : tyRow Try.prog 23 = some (2, 1, 8) := by kernel_rfl
theorem tyF_35_0 : fOff Try.prog 35 0 = some 0 := by kernel_rfl
theorem tyA_23 : tyAgg Try.prog 23 = false := by kernel_rfl
theorem tyS_23 : tySize Try.prog 23 = 1 := by kernel_rfl
theorem tyF_35_1 : fOff Try.prog 35 1 = some 1 := by kernel_rfl
theorem tyA_3 : tyAgg Try.prog 3 = false := by kernel_rfl
theorem tyS_3 : tySize Try.prog 3 = 1 := by kernel_rfl
theorem tyF_35_2 : fOff Try.prog 35 2 = some 2 := by kernel_rfl
theorem tyR_33 : tyRow Try.prog 33 = some (3, 1, 8) := by kernel_rfl
theorem tyF_35_3 : fOff Try.prog 35 3 = some 3 := by kernel_rfl
theorem tyA_33 : tyAgg Try.prog 33 = false := by kernel_rfl
theorem tyS_33 : tySize Try.prog 33 = 1 := by kernel_rfl
theorem tyF_35_4 : fOff Try.prog 35 4 = some 4 := by kernel_rfl
theorem tyB_35 : tyParts Try.prog 35 = some ([(0, 1), (1, 1), (2, 1), (3, 1), (4, 1)], [Value.slice none 0 0, Value.int IntKind.i64 0, Value.int IntKind.i64 0, Value.slice none 0 0, Value.slice none 0 0]) := by kernel_rfl
theorem tyZ_35 : tyZero Try.prog 35 = some (Value.agg #[Value.slice none 0 0, Value.int IntKind.i64 0, Value.int IntKind.i64 0, Value.slice none 0 0, Value.slice none 0 0]) := by kernel_rfl
theorem tyE_40 : tyElem Try.prog 40 = (43, 3) := by kernel_rfl
theorem tyK_40 : tyK Try.prog 40 = TyK.slice := by kernel_rfl
theorem tyF_43_2 : fOff Try.prog 43 2 = some 2 := by kernel_rfl
theorem tyA_2 : tyAgg Try.prog 2 = false := by kernel_rfl
theorem tyS_2 : tySize Try.prog 2 = 1 := by kernel_rfl
theorem tyA_43 : tyAgg Try.prog 43 = true := by kernel_rfl
theorem tyS_43 : tySize Try.prog 43 = 3 := by kernel_rfl
theorem tyK_44 : tyK Try.prog 44 = TyK.int := by kernel_rfl
theorem tyE_33 : tyElem Try.prog 33 = (3, 1) := by kernel_rfl
theorem tyK_33 : tyK Try.prog 33 = TyK.slice := by kernel_rfl
theorem tyF_32_6 : fOff Try.prog 32 6 = some 6 := by kernel_rfl
theorem tyA_27 : tyAgg Try.prog 27 = false := by kernel_rfl
theorem tyS_27 : tySize Try.prog 27 = 1 := by kernel_rfl
theorem tyE_27 : tyElem Try.prog 27 = (52, 3) := by kernel_rfl
theorem tyK_27 : tyK Try.prog 27 = TyK.slice := by kernel_rfl
theorem tyF_32_7 : fOff Try.prog 32 7 = some 7 := by kernel_rfl
theorem tyA_28 : tyAgg Try.prog 28 = false := by kernel_rfl
theorem tyS_28 : tySize Try.prog 28 = 1 := by kernel_rfl
theorem tyE_28 : tyElem Try.prog 28 = (54, 5) := by kernel_rfl
theorem tyK_28 : tyK Try.prog 28 = TyK.slice := by kernel_rfl
theorem tyF_32_4 : fOff Try.prog 32 4 = some 4 := by kernel_rfl
theorem tyA_25 : tyAgg Try.prog 25 = false := by kernel_rfl
theorem tyS_25 : tySize Try.prog 25 = 1 := by kernel_rfl
theorem tyE_25 : tyElem Try.prog 25 = (67, 2) := by kernel_rfl
theorem tyK_25 : tyK Try.prog 25 = TyK.slice := by kernel_rfl
theorem tyF_32_5 : fOff Try.prog 32 5 = some 5 := by kernel_rfl
theorem tyA_26 : tyAgg Try.prog 26 = false := by kernel_rfl
theorem tyS_26 : tySize Try.prog 26 = 1 := by kernel_rfl
theorem tyE_26 : tyElem Try.prog 26 = (56, 5) := by kernel_rfl
theorem tyK_26 : tyK Try.prog 26 = TyK.slice := by kernel_rfl
theorem tyF_32_0 : fOff Try.prog 32 0 = some 0 := by kernel_rfl
theorem tyA_22 : tyAgg Try.prog 22 = false := by kernel_rfl
theorem tyS_22 : tySize Try.prog 22 = 1 := by kernel_rfl
theorem tyE_22 : tyElem Try.prog 22 = (9, 1) := by kernel_rfl
theorem tyK_22 : tyK Try.prog 22 = TyK.slice := by kernel_rfl
theorem tyF_32_2 : fOff Try.prog 32 2 = some 2 := by kernel_rfl
theorem tyF_32_3 : fOff Try.prog 32 3 = some 3 := by kernel_rfl
theorem tyA_24 : tyAgg Try.prog 24 = false := by kernel_rfl
theorem tyS_24 : tySize Try.prog 24 = 1 := by kernel_rfl
theorem tyE_24 : tyElem Try.prog 24 = (65, 2) := by kernel_rfl
theorem tyK_24 : tyK Try.prog 24 = TyK.slice := by kernel_rfl
theorem tyF_32_8 : fOff Try.prog 32 8 = some 8 := by kernel_rfl
theorem tyA_29 : tyAgg Try.prog 29 = false := by kernel_rfl
theorem tyS_29 : tySize Try.prog 29 = 1 := by kernel_rfl
theorem tyE_29 : tyElem Try.prog 29 = (80, 2) := by kernel_rfl
theorem tyK_29 : tyK Try.prog 29 = TyK.slice := by kernel_rfl
theorem tyF_32_9 : fOff Try.prog 32 9 = some 9 := by kernel_rfl
theorem tyA_30 : tyAgg Try.prog 30 = false := by kernel_rfl
theorem tyS_30 : tySize Try.prog 30 = 1 := by kernel_rfl
theorem tyE_30 : tyElem Try.prog 30 = (88, 2) := by kernel_rfl
theorem tyK_30 : tyK Try.prog 30 = TyK.slice := by kernel_rfl
theorem tyF_32_1 : fOff Try.prog 32 1 = some 1 := by kernel_rfl
theorem tyF_52_2 : fOff Try.prog 52 2 = some 2 := by kernel_rfl
theorem tyA_50 : tyAgg Try.prog 50 = false := by kernel_rfl
theorem tyS_50 : tySize Try.prog 50 = 1 := by kernel_rfl
theorem tyE_50 : tyElem Try.prog 50 = (99, 7) := by kernel_rfl
theorem tyK_50 : tyK Try.prog 50 = TyK.slice := by kernel_rfl
theorem tyF_54_3 : fOff Try.prog 54 3 = some 3 := by kernel_rfl
theorem tyF_56_3 : fOff Try.prog 56 3 = some 3 := by kernel_rfl
theorem tyF_56_4 : fOff Try.prog 56 4 = some 4 := by kernel_rfl
theorem tyR_22 : tyRow Try.prog 22 = some (9, 1, 16) := by kernel_rfl
theorem tyB_65 : tyParts Try.prog 65 = some ([(0, 1), (1, 1)], [Value.string ByteArray.empty, Value.int IntKind.i64 0]) := by kernel_rfl
theorem tyR_24 : tyRow Try.prog 24 = some (65, 2, 24) := by kernel_rfl
theorem tyB_67 : tyParts Try.prog 67 = some ([(0, 1), (1, 1)], [Value.string ByteArray.empty, Value.int IntKind.i64 0]) := by kernel_rfl
theorem tyR_25 : tyRow Try.prog 25 = some (67, 2, 24) := by kernel_rfl
theorem tyB_56 : tyParts Try.prog 56 = some ([(0, 1), (1, 1), (2, 1), (3, 1), (4, 1)], [Value.string ByteArray.empty, Value.int IntKind.i64 0, Value.int IntKind.i64 0, Value.slice none 0 0, Value.int IntKind.i64 0]) := by kernel_rfl
theorem tyR_26 : tyRow Try.prog 26 = some (56, 5, 64) := by kernel_rfl
theorem tyB_32 : tyParts Try.prog 32 = some ([(0, 1), (1, 1), (2, 1), (3, 1), (4, 1), (5, 1), (6, 1), (7, 1), (8, 1), (9, 1)], [Value.slice none 0 0, Value.slice none 0 0, Value.slice none 0 0, Value.slice none 0 0, Value.slice none 0 0, Value.slice none 0 0, Value.slice none 0 0, Value.slice none 0 0, Value.slice none 0 0, Value.slice none 0 0]) := by kernel_rfl
theorem tyZ_32 : tyZero Try.prog 32 = some (Value.agg #[Value.slice none 0 0, Value.slice none 0 0, Value.slice none 0 0, Value.slice none 0 0, Value.slice none 0 0, Value.slice none 0 0, Value.slice none 0 0, Value.slice none 0 0, Value.slice none 0 0, Value.slice none 0 0]) := by kernel_rfl
theorem tyB_43 : tyParts Try.prog 43 = some ([(0, 1), (1, 1), (2, 1)], [Value.int IntKind.i64 0, Value.int IntKind.i64 0, Value.slice none 0 0]) := by kernel_rfl
theorem tyK_2 : tyK Try.prog 2 = TyK.int := by kernel_rfl
theorem tyA_56 : tyAgg Try.prog 56 = true := by kernel_rfl
theorem tyS_56 : tySize Try.prog 56 = 5 := by kernel_rfl
theorem tyZ_56 : tyZero Try.prog 56 = some (Value.agg #[Value.string ByteArray.empty, Value.int IntKind.i64 0, Value.int IntKind.i64 0, Value.slice none 0 0, Value.int IntKind.i64 0]) := by kernel_rfl
theorem tyQ_23 : isMk 23 = true := by kernel_rfl
theorem tyR_40 : tyRow Try.prog 40 = some (43, 3, 40) := by kernel_rfl
theorem tyF_43_0 : fOff Try.prog 43 0 = some 0 := by kernel_rfl
theorem tyF_67_1 : fOff Try.prog 67 1 = some 1 := by kernel_rfl
theorem tyF_65_1 : fOff Try.prog 65 1 = some 1 := by kernel_rfl
theorem tyF_56_1 : fOff Try.prog 56 1 = some 1 := by kernel_rfl
theorem tyF_56_2 : fOff Try.prog 56 2 = some 2 := by kernel_rfl
theorem tyA_52 : tyAgg Try.prog 52 = true := by kernel_rfl
theorem tyS_52 : tySize Try.prog 52 = 3 := by kernel_rfl
theorem tyZ_52 : tyZero Try.prog 52 = some (Value.agg #[Value.int IntKind.i64 0, Value.int IntKind.i64 0, Value.slice none 0 0]) := by kernel_rfl
theorem tyF_52_0 : fOff Try.prog 52 0 = some 0 := by kernel_rfl
theorem tyF_52_1 : fOff Try.prog 52 1 = some 1 := by kernel_rfl
theorem tyA_54 : tyAgg Try.prog 54 = true := by kernel_rfl
theorem tyS_54 : tySize Try.prog 54 = 5 := by kernel_rfl
theorem tyZ_54 : tyZero Try.prog 54 = some (Value.agg #[Value.string ByteArray.empty, Value.int IntKind.i64 0, Value.int IntKind.i64 0, Value.slice none 0 0, Value.bool false]) := by kernel_rfl
theorem tyF_54_1 : fOff Try.prog 54 1 = some 1 := by kernel_rfl
theorem tyF_54_2 : fOff Try.prog 54 2 = some 2 := by kernel_rfl
theorem tyF_80_0 : fOff Try.prog 80 0 = some 0 := by kernel_rfl
theorem tyF_80_1 : fOff Try.prog 80 1 = some 1 := by kernel_rfl
theorem tyR_85 : tyRow Try.prog 85 = some (4, 1, 1) := by kernel_rfl
theorem tyQ_85 : isMk 85 = false := by kernel_rfl
theorem tyE_85 : tyElem Try.prog 85 = (4, 1) := by kernel_rfl
theorem tyA_4 : tyAgg Try.prog 4 = false := by kernel_rfl
theorem tyS_4 : tySize Try.prog 4 = 1 := by kernel_rfl
theorem tyR_30 : tyRow Try.prog 30 = some (88, 2, 16) := by kernel_rfl
theorem tyA_88 : tyAgg Try.prog 88 = true := by kernel_rfl
theorem tyS_88 : tySize Try.prog 88 = 2 := by kernel_rfl
theorem tyK_88 : tyK Try.prog 88 = TyK.other := by kernel_rfl
theorem tyZ_43 : tyZero Try.prog 43 = some (Value.agg #[Value.int IntKind.i64 0, Value.int IntKind.i64 0, Value.slice none 0 0]) := by kernel_rfl
theorem tyF_43_1 : fOff Try.prog 43 1 = some 1 := by kernel_rfl
theorem tyZ_88 : tyZero Try.prog 88 = some (Value.agg #[Value.bool false, Value.int IntKind.i64 0]) := by kernel_rfl
theorem tyF_99_0 : fOff Try.prog 99 0 = some 0 := by kernel_rfl
theorem tyB_105 : tyParts Try.prog 105 = some ([(0, 1), (1, 2), (3, 2), (5, 1), (6, 1), (7, 2)], [Value.int IntKind.i64 0, Value.string ByteArray.empty, Value.int IntKind.i64 0, Value.string ByteArray.empty, Value.int IntKind.i64 0, Value.string ByteArray.empty, Value.string ByteArray.empty, Value.int IntKind.i64 0, Value.int IntKind.i64 0]) := by kernel_rfl
theorem tyR_95 : tyRow Try.prog 95 = some (105, 9, 104) := by kernel_rfl
theorem tyA_99 : tyAgg Try.prog 99 = true := by kernel_rfl
theorem tyS_99 : tySize Try.prog 99 = 7 := by kernel_rfl
theorem tyF_99_1 : fOff Try.prog 99 1 = some 1 := by kernel_rfl
theorem tyF_97_0 : fOff Try.prog 97 0 = some 0 := by kernel_rfl
theorem tyF_97_1 : fOff Try.prog 97 1 = some 1 := by kernel_rfl
theorem tyF_99_2 : fOff Try.prog 99 2 = some 3 := by kernel_rfl
theorem tyB_88 : tyParts Try.prog 88 = some ([(0, 1), (1, 1)], [Value.bool false, Value.int IntKind.i64 0]) := by kernel_rfl
theorem tyZ_4 : tyZero Try.prog 4 = some (Value.bool false) := by kernel_rfl
theorem tyZ_116 : tyZero Try.prog 116 = some (Value.agg #[Value.int IntKind.i64 0, Value.int IntKind.i64 0, Value.slice none 0 0, Value.int IntKind.i64 0]) := by kernel_rfl
theorem tyS_116 : tySize Try.prog 116 = 4 := by kernel_rfl
theorem tyF_116_2 : fOff Try.prog 116 2 = some 2 := by kernel_rfl
theorem tyF_88_0 : fOff Try.prog 88 0 = some 0 := by kernel_rfl
theorem tyF_116_3 : fOff Try.prog 116 3 = some 3 := by kernel_rfl
theorem tyF_116_0 : fOff Try.prog 116 0 = some 0 := by kernel_rfl
theorem tyE_95 : tyElem Try.prog 95 = (105, 9) := by kernel_rfl
theorem tyK_95 : tyK Try.prog 95 = TyK.slice := by kernel_rfl
theorem tyF_99_3 : fOff Try.prog 99 3 = some 5 := by kernel_rfl
theorem tyF_99_4 : fOff Try.prog 99 4 = some 6 := by kernel_rfl
theorem tyA_80 : tyAgg Try.prog 80 = true := by kernel_rfl
theorem tyS_80 : tySize Try.prog 80 = 2 := by kernel_rfl
theorem tyZ_80 : tyZero Try.prog 80 = some (Value.agg #[Value.int IntKind.i64 0, Value.int IntKind.i64 0]) := by kernel_rfl
theorem tyF_116_1 : fOff Try.prog 116 1 = some 1 := by kernel_rfl
theorem tyK_4 : tyK Try.prog 4 = TyK.bool := by kernel_rfl
theorem tyA_116 : tyAgg Try.prog 116 = true := by kernel_rfl
theorem tyF_88_1 : fOff Try.prog 88 1 = some 1 := by kernel_rfl
theorem tyB_116 : tyParts Try.prog 116 = some ([(0, 1), (1, 1), (2, 1), (3, 1)], [Value.int IntKind.i64 0, Value.int IntKind.i64 0, Value.slice none 0 0, Value.int IntKind.i64 0]) := by kernel_rfl
theorem tyA_67 : tyAgg Try.prog 67 = true := by kernel_rfl
theorem tyS_67 : tySize Try.prog 67 = 2 := by kernel_rfl
theorem tyZ_67 : tyZero Try.prog 67 = some (Value.agg #[Value.string ByteArray.empty, Value.int IntKind.i64 0]) := by kernel_rfl
theorem tyF_105_0 : fOff Try.prog 105 0 = some 0 := by kernel_rfl
theorem tyF_54_4 : fOff Try.prog 54 4 = some 4 := by kernel_rfl
theorem tyZ_2 : tyZero Try.prog 2 = some (Value.int IntKind.i64 0) := by kernel_rfl
end
section
open Go.RowKit

/-- code, as it is: what it asks of a state -/
def SC (P : Program) (c : Code) (Q : Exit → ASt → Prop) (st : ASt) : Prop := ∀ (cx : Cx) (a : Act) (w : World) (L : Nat → Value), Conc cx a w st L → c.wp P (AfterC cx Q) a w
section
variable {P : Program} {x y : Code} {Q Q' : Exit → ASt → Prop} {st st' : ASt}
theorem SC.mono (h : SC P x Q st) (hq : ∀ e st, Q e st → Q' e st) : SC P x Q' st := fun cx a w L hc => Code.wp_mono (fun e a w ⟨st', L', h1, h2⟩ => ⟨st', L', hq e st' h1, h2⟩) (h cx a w L hc)
theorem aTo_mk {I : ASt → Prop} (hw : Weak st st') (h : I st') : aTo I st := ⟨st', hw, h⟩
end
/-- a contract of old -/
theorem adet_of_calls {P : Program} {f : FuncId} {args : List AV} {v : Value} (he : Enters P f)
    (h : ∀ (S : Nat → Prop) (w : World) (vs : Array Value), SOk w S → vs.size = args.length → (∀ (j : Nat) (v : Value) (av : AV), vs[j]? = some v → args[j]? = some av → RT w S v av) → Calls P f vs w fun e w' => e = .returned v ∧ Below w.heap.size w w') : ADet P f args (val v) :=
  ⟨he, fun S w vs h1 h2 h3 => (h S w vs h1 h2 h3).mono fun e w' ⟨h4, h5⟩ => ⟨v, fun _ => undef, val v, rfl, val_ok v, h4, ⟨belowX h5, fun id o h => (by cases h), fun id id' o o' g h => (by cases h), fun b hb => hb.elim⟩, .tree (.c v)⟩⟩
/-- a contract, said of values -/
theorem ADet.calls {P : Program} {f : FuncId} {args : List AV} {v : Value} (h : ADet P f args (val v)) {w : World} {vs : Array Value} (h2 : vs.size = args.length) (h3 : ∀ (j : Nat) (v : Value) (av : AV), vs[j]? = some v → args[j]? = some av → RT w (fun b => b < w.heap.size) v av) (hA : Amb w := by exact amb_any _) :
    Calls P f vs w fun e w' => e = .returned v ∧ Below w.heap.size w w' :=
  (h.2 _ w vs ⟨fun b hb => hb, hA, fun b hb => Nat.lt_of_lt_of_le hb hA.le⟩ h2 h3).mono fun e w' ⟨v', L, R, h0, _, h4, h5, h6⟩ => by
    subst h0
    obtain rfl := h6.c_inv
    exact ⟨h4, h5.below.below fun b hb => hb⟩
/-- the answer: one new slice -/
def own (e : TypeId) (sz : Nat) (rows : List (List AV)) : Res := ⟨.osl 0, [(0, some (.row e sz rows))], 1⟩
theorem own_ok (e : TypeId) (sz : Nat) (rows : List (List AV)) : (own e sz rows).Ok := by
  refine ⟨fun id o h => ?_, Nat.zero_lt_one⟩
  simp only [own, ATab.get_cons] at h
  split at h
  · rename_i e
    cases h
    subst e
    exact ⟨Nat.zero_lt_one, trivial⟩
  · cases h
theorem aGives_own {e : TypeId} {sz : Nat} {rows : List (List AV)} {st : ASt} {id : Nat} : st.tab.get id = some (.row e sz rows) → aGives (own e sz rows) st (.osl id) := fun h =>
  ⟨[id], by simp, rfl, ⟨Nat.zero_lt_one, ⟨e, sz, rows, rfl⟩, h⟩, trivial⟩
theorem retV {Post : Res → Prop} {st : ASt} {v : Value} (h : Post (val v)) : ∃ R, Post R ∧ R.Ok ∧ aGives R st (.c v) := ⟨_, h, val_ok v, gives_val rfl⟩
theorem retO {Post : Res → Prop} {st : ASt} {id : Nat} {e : TypeId} {sz : Nat} {rows : List (List AV)} (hg : st.tab.get id = some (.row e sz rows)) (h : Post (own e sz rows)) : ∃ R, Post R ∧ R.Ok ∧ aGives R st (.osl id) := ⟨_, h, own_ok .., aGives_own hg⟩
/-- a call, by what is known of its answers -/
theorem callP {u : Option (Nat × List Nat)} {P : Program} {st : ASt} {g : FuncId} {args : List AV} {K : AV → ASt → Prop} {Post : Res → Prop} (h : ARel P g (args.map (dref st.tab)) Post) (hk : ∀ R, Post R → (roL args ∨ (R.r.plain ∧ R.tab.plain)) ∧ K (R.r.shift st.next) { st with tab := R.tab.shift st.next ++ st.tab, next := st.next + R.n }) : aCall u P st g args K := .inl (.inl ⟨Post, h, hk⟩)
/-- a call that gives back this -/
theorem callR {u : Option (Nat × List Nat)} {P : Program} {st : ASt} {g : FuncId} {args : List AV} {K : AV → ASt → Prop} {R : Res} (h : ADet P g (args.map (dref st.tab)) R) (ho : roL args ∨ (R.r.plain ∧ R.tab.plain)) (hk : K (R.r.shift st.next) { st with tab := R.tab.shift st.next ++ st.tab, next := st.next + R.n }) : aCall u P st g args K :=
  .inl (.inl ⟨_, h, fun R' e => by subst e; exact ⟨ho, hk⟩⟩)
/-- a call that gives back one value -/
theorem callV {u : Option (Nat × List Nat)} {P : Program} {st : ASt} {g : FuncId} {args : List AV} {dst : Option Nat} {K : ASt → Prop} {v : Value} (h : ADet P g (args.map (dref st.tab)) (val v)) (hk : K (st.put dst (.c v))) : aCall u P st g args (aK2 dst K) :=
  callR h (.inr ⟨trivial, trivial⟩) hk
/-- the rules of a walk, in one -/
theorem ruA : type_of% (And.intro (And.intro (And.intro (And.intro (And.intro (And.intro (And.intro @aCode_skip @aCode_regF) (And.intro @aCode_regT (And.intro @aCode_seq @aCode_cond))) (And.intro (And.intro @aCode_block @aCode_loop) (And.intro @aCode_exit (And.intro @aCode_ret @aCode_label)))) (And.intro (And.intro (And.intro @aCode_scope @aNoGoto_normal) (And.intro @aNoGoto_ret (And.intro @aNoGoto_exit @aThen_normal))) (And.intro (And.intro @aThen_exit (And.intro @aThen_ret @aInBlock_normal)) (And.intro @aInBlock_ret (And.intro @aInBlock_exit @aCond_bool))))) (And.intro (And.intro (And.intro (And.intro @aSkip_eq @aKs_eq) (And.intro @aK_eq (And.intro @aK2_eq @aFn_eq))) (And.intro (And.intro @aFn_clo (And.intro @aFnB_eq @aFnB_clo)) (And.intro @aFnB_bfn (And.intro @aCallF_eq @aCallB_eq)))) (And.intro (And.intro (And.intro @aCallE_eq @aCallD_eq) (And.intro @aOps_nil (And.intro @aOps_plain @aOps_guard))) (And.intro (And.intro @aDops_nil (And.intro @aDops_plain @aDops_guard)) (And.intro @aGuardD_eq (And.intro @aGuardV_bool @aGuardV_undef)))))) (And.intro (And.intro (And.intro (And.intro (And.intro @aGd_tt @aGd_ff) (And.intro @aGd_tf (And.intro @aGd_ft @aIf_true))) (And.intro (And.intro @aIf_false @aSel_true) (And.intro @aSel_false (And.intro @aPickK_bool @aOp_move)))) (And.intro (And.intro (And.intro @aOp_assign @aOp_pick) (And.intro @aOp_load (And.intro @aOp_field @aOp_index))) (And.intro (And.intro @aOp_bin (And.intro @aOp_un @aOp_extract)) (And.intro @aOp_conv (And.intro @aOp_len @aOp_append))))) (And.intro (And.intro (And.intro (And.intro @aOp_call @aOp_makeFunc) (And.intro @aOp_makeFuncB (And.intro @aOp_box @aOp_alloc))) (And.intro (And.intro @aOp_store (And.intro @aOp_buildSlice @aOp_makeSlice)) (And.intro @aOp_build (And.intro @aDop_move @aDop_assign)))) (And.intro (And.intro (And.intro @aDop_pick @aDop_load) (And.intro @aDop_field (And.intro @aDop_index @aDop_bin))) (And.intro (And.intro @aDop_un (And.intro @aDop_extract @aDop_conv)) (And.intro @aDop_len (And.intro @aDop_call @aDop_makeFunc))))))) (And.intro (And.intro (And.intro (And.intro (And.intro (And.intro @aDop_build @aGives_val) (And.intro @aRet_n (And.intro @aRet_r @aRetR_n))) (And.intro (And.intro @aRetR_r @aPops_nil) (And.intro @aPops_plain (And.intro @aPops_guard @aPop_eq)))) (And.intro (And.intro (And.intro @aHeldH_nil @aHeldH_cons) (And.intro @aHeld_nil (And.intro @aHeld_take @aHeld_exec))) (And.intro (And.intro @aHeld_two (And.intro @aHeld_three @aHeld_four)) (And.intro @aHeldL_plain (And.intro @aHeldL_guard @aHeldT_plain))))) (And.intro (And.intro (And.intro (And.intro @aHeldT_guard @aTakeY_eq) (And.intro @aTakeN_eq (And.intro @aTakeP_build @aTakeP_move))) (And.intro (And.intro @aTakeP_assign (And.intro @aTakeP_pick @aTakeP_load)) (And.intro @aTakeP_field (And.intro @aTakeP_index @aTakeP_fieldV)))) (And.intro (And.intro (And.intro @aTakeP_bin @aTakeP_un) (And.intro @aTakeP_extract (And.intro @aTakeP_conv @aTakeP_call))) (And.intro (And.intro @aTakeP_clo (And.intro @aHeldE_eq @aHeldE_guard)) (And.intro @aExecK_eq (And.intro @aExec_assign @aExec_load)))))) (And.intro (And.intro (And.intro (And.intro (And.intro @aExec_store @aExec_append) (And.intro @aExec_call (And.intro @aExec_buildSlice @aPure_move))) (And.intro (And.intro @aPure_assign @aPure_pick) (And.intro @aPure_load (And.intro @aPure_field @aPure_index)))) (And.intro (And.intro (And.intro @aPure_bin @aPure_un) (And.intro @aPure_extract (And.intro @aPure_len @aPure_makeFunc))) (And.intro (And.intro @aOp_fieldV (And.intro @aDop_fieldV @aPure_fieldV)) (And.intro @aOp_slice (And.intro @aDop_slice @aPure_slice))))) (And.intro (And.intro (And.intro (And.intro @aTakeP_slice @aExec_makeSlice) (And.intro @aPure_max (And.intro @aPure_min @aOp_max))) (And.intro (And.intro @aOp_min (And.intro @aDop_max @aDop_min)) (And.intro @aExec_alloc (And.intro @aOp_nilChk @aDop_nilChk)))) (And.intro (And.intro (And.intro @aTakeP_nilChk @aPure_nilChk) (And.intro @aExec_box (And.intro @aOp_clear @aOp_makeMap))) (And.intro (And.intro @aOp_lookup (And.intro @aOp_mapUpdate @aExec_lookup)) (And.intro @aExec_mapUpdate (And.intro @aRetH_n @aRetH_r)))))))) :=
  (And.intro (And.intro (And.intro (And.intro (And.intro (And.intro (And.intro @aCode_skip @aCode_regF) (And.intro @aCode_regT (And.intro @aCode_seq @aCode_cond))) (And.intro (And.intro @aCode_block @aCode_loop) (And.intro @aCode_exit (And.intro @aCode_ret @aCode_label)))) (And.intro (And.intro (And.intro @aCode_scope @aNoGoto_normal) (And.intro @aNoGoto_ret (And.intro @aNoGoto_exit @aThen_normal))) (And.intro (And.intro @aThen_exit (And.intro @aThen_ret @aInBlock_normal)) (And.intro @aInBlock_ret (And.intro @aInBlock_exit @aCond_bool))))) (And.intro (And.intro (And.intro (And.intro @aSkip_eq @aKs_eq) (And.intro @aK_eq (And.intro @aK2_eq @aFn_eq))) (And.intro (And.intro @aFn_clo (And.intro @aFnB_eq @aFnB_clo)) (And.intro @aFnB_bfn (And.intro @aCallF_eq @aCallB_eq)))) (And.intro (And.intro (And.intro @aCallE_eq @aCallD_eq) (And.intro @aOps_nil (And.intro @aOps_plain @aOps_guard))) (And.intro (And.intro @aDops_nil (And.intro @aDops_plain @aDops_guard)) (And.intro @aGuardD_eq (And.intro @aGuardV_bool @aGuardV_undef)))))) (And.intro (And.intro (And.intro (And.intro (And.intro @aGd_tt @aGd_ff) (And.intro @aGd_tf (And.intro @aGd_ft @aIf_true))) (And.intro (And.intro @aIf_false @aSel_true) (And.intro @aSel_false (And.intro @aPickK_bool @aOp_move)))) (And.intro (And.intro (And.intro @aOp_assign @aOp_pick) (And.intro @aOp_load (And.intro @aOp_field @aOp_index))) (And.intro (And.intro @aOp_bin (And.intro @aOp_un @aOp_extract)) (And.intro @aOp_conv (And.intro @aOp_len @aOp_append))))) (And.intro (And.intro (And.intro (And.intro @aOp_call @aOp_makeFunc) (And.intro @aOp_makeFuncB (And.intro @aOp_box @aOp_alloc))) (And.intro (And.intro @aOp_store (And.intro @aOp_buildSlice @aOp_makeSlice)) (And.intro @aOp_build (And.intro @aDop_move @aDop_assign)))) (And.intro (And.intro (And.intro @aDop_pick @aDop_load) (And.intro @aDop_field (And.intro @aDop_index @aDop_bin))) (And.intro (And.intro @aDop_un (And.intro @aDop_extract @aDop_conv)) (And.intro @aDop_len (And.intro @aDop_call @aDop_makeFunc))))))) (And.intro (And.intro (And.intro (And.intro (And.intro (And.intro @aDop_build @aGives_val) (And.intro @aRet_n (And.intro @aRet_r @aRetR_n))) (And.intro (And.intro @aRetR_r @aPops_nil) (And.intro @aPops_plain (And.intro @aPops_guard @aPop_eq)))) (And.intro (And.intro (And.intro @aHeldH_nil @aHeldH_cons) (And.intro @aHeld_nil (And.intro @aHeld_take @aHeld_exec))) (And.intro (And.intro @aHeld_two (And.intro @aHeld_three @aHeld_four)) (And.intro @aHeldL_plain (And.intro @aHeldL_guard @aHeldT_plain))))) (And.intro (And.intro (And.intro (And.intro @aHeldT_guard @aTakeY_eq) (And.intro @aTakeN_eq (And.intro @aTakeP_build @aTakeP_move))) (And.intro (And.intro @aTakeP_assign (And.intro @aTakeP_pick @aTakeP_load)) (And.intro @aTakeP_field (And.intro @aTakeP_index @aTakeP_fieldV)))) (And.intro (And.intro (And.intro @aTakeP_bin @aTakeP_un) (And.intro @aTakeP_extract (And.intro @aTakeP_conv @aTakeP_call))) (And.intro (And.intro @aTakeP_clo (And.intro @aHeldE_eq @aHeldE_guard)) (And.intro @aExecK_eq (And.intro @aExec_assign @aExec_load)))))) (And.intro (And.intro (And.intro (And.intro (And.intro @aExec_store @aExec_append) (And.intro @aExec_call (And.intro @aExec_buildSlice @aPure_move))) (And.intro (And.intro @aPure_assign @aPure_pick) (And.intro @aPure_load (And.intro @aPure_field @aPure_index)))) (And.intro (And.intro (And.intro @aPure_bin @aPure_un) (And.intro @aPure_extract (And.intro @aPure_len @aPure_makeFunc))) (And.intro (And.intro @aOp_fieldV (And.intro @aDop_fieldV @aPure_fieldV)) (And.intro @aOp_slice (And.intro @aDop_slice @aPure_slice))))) (And.intro (And.intro (And.intro (And.intro @aTakeP_slice @aExec_makeSlice) (And.intro @aPure_max (And.intro @aPure_min @aOp_max))) (And.intro (And.intro @aOp_min (And.intro @aDop_max @aDop_min)) (And.intro @aExec_alloc (And.intro @aOp_nilChk @aDop_nilChk)))) (And.intro (And.intro (And.intro @aTakeP_nilChk @aPure_nilChk) (And.intro @aExec_box (And.intro @aOp_clear @aOp_makeMap))) (And.intro (And.intro @aOp_lookup (And.intro @aOp_mapUpdate @aExec_lookup)) (And.intro @aExec_mapUpdate (And.intro @aRetH_n @aRetH_r))))))))
theorem ruB : type_of% (And.intro (And.intro (And.intro (And.intro (And.intro @ATab.get_cons (And.intro @Nat.zero_add @Nat.add_zero)) (And.intro (And.intro @List.getElem?_cons_zero.{0} @List.getElem?_cons_succ.{0}) (And.intro @List.getElem?_toArray.{0} @Option.bind_some.{0,0}))) (And.intro (And.intro (And.intro @List.map_cons.{0,0} @List.map_nil.{0,0}) (And.intro @List.length_cons.{0} @List.length_nil.{0})) (And.intro (And.intro @List.drop_succ_cons.{0} @List.drop_zero.{0}) (And.intro @List.take_succ_cons.{0} @List.take_zero.{0})))) (And.intro (And.intro (And.intro (And.intro @List.headD_cons.{0} @List.length_map.{0,0}) (And.intro @Bool.not_true @Bool.not_false)) (And.intro (And.intro @true_and @and_true) (And.intro @Option.getD_some.{0} @List.cons_append.{0}))) (And.intro (And.intro (And.intro @List.nil_append.{0} @List.append_nil.{0}) (And.intro @Nat.succ_ne_self @Nat.one_ne_zero)) (And.intro (And.intro @AV.c.injEq @Value.bool.injEq) (And.intro @Value.int.injEq @false_implies))))) (And.intro (And.intro (And.intro (And.intro (And.intro @decide_eq_true_eq @decide_eq_false_iff_not) (And.intro @Int.natCast_nonneg @Int.ofNat_lt)) (And.intro (And.intro @Int.ofNat_le @Int.toNat_natCast) (And.intro @not_false_eq_true @not_true_eq_false))) (And.intro (And.intro (And.intro @Nat.le_refl @false_and) (And.intro @and_false @Nat.succ_ne_zero)) (And.intro (And.intro @imp_self @true_implies) (And.intro @decide_true @decide_false)))) (And.intro (And.intro (And.intro (And.intro @List.set_cons_zero.{0} @List.set_cons_succ.{0}) (And.intro @Nat.zero_le @List.mem_cons.{0})) (And.intro (And.intro @List.not_mem_nil.{0} @or_false) (And.intro @List.flatMap_cons.{0,0} @List.flatMap_nil.{0,0}))) (And.intro (And.intro (And.intro @Option.map_some.{0,0} @Option.map_none.{0,0}) (And.intro @Option.isSome_some.{0} @Option.isSome_none.{0})) (And.intro (And.intro @Int.le_refl @List.take_length.{0}) (And.intro @true_or @or_true)))))) :=
  (And.intro (And.intro (And.intro (And.intro (And.intro @ATab.get_cons (And.intro @Nat.zero_add @Nat.add_zero)) (And.intro (And.intro @List.getElem?_cons_zero.{0} @List.getElem?_cons_succ.{0}) (And.intro @List.getElem?_toArray.{0} @Option.bind_some.{0,0}))) (And.intro (And.intro (And.intro @List.map_cons.{0,0} @List.map_nil.{0,0}) (And.intro @List.length_cons.{0} @List.length_nil.{0})) (And.intro (And.intro @List.drop_succ_cons.{0} @List.drop_zero.{0}) (And.intro @List.take_succ_cons.{0} @List.take_zero.{0})))) (And.intro (And.intro (And.intro (And.intro @List.headD_cons.{0} @List.length_map.{0,0}) (And.intro @Bool.not_true @Bool.not_false)) (And.intro (And.intro @true_and @and_true) (And.intro @Option.getD_some.{0} @List.cons_append.{0}))) (And.intro (And.intro (And.intro @List.nil_append.{0} @List.append_nil.{0}) (And.intro @Nat.succ_ne_self @Nat.one_ne_zero)) (And.intro (And.intro @AV.c.injEq @Value.bool.injEq) (And.intro @Value.int.injEq @false_implies))))) (And.intro (And.intro (And.intro (And.intro (And.intro @decide_eq_true_eq @decide_eq_false_iff_not) (And.intro @Int.natCast_nonneg @Int.ofNat_lt)) (And.intro (And.intro @Int.ofNat_le @Int.toNat_natCast) (And.intro @not_false_eq_true @not_true_eq_false))) (And.intro (And.intro (And.intro @Nat.le_refl @false_and) (And.intro @and_false @Nat.succ_ne_zero)) (And.intro (And.intro @imp_self @true_implies) (And.intro @decide_true @decide_false)))) (And.intro (And.intro (And.intro (And.intro @List.set_cons_zero.{0} @List.set_cons_succ.{0}) (And.intro @Nat.zero_le @List.mem_cons.{0})) (And.intro (And.intro @List.not_mem_nil.{0} @or_false) (And.intro @List.flatMap_cons.{0,0} @List.flatMap_nil.{0,0}))) (And.intro (And.intro (And.intro @Option.map_some.{0,0} @Option.map_none.{0,0}) (And.intro @Option.isSome_some.{0} @Option.isSome_none.{0})) (And.intro (And.intro @Int.le_refl @List.take_length.{0}) (And.intro @true_or @or_true))))))
theorem ruW : type_of% (And.intro (And.intro (And.intro (And.intro @ATab.get_cons @and_true) (And.intro @true_and (And.intro @AV.c.injEq @Value.int.injEq))) (And.intro (And.intro @Value.bool.injEq @Bool.not_true) (And.intro @Bool.not_false (And.intro @Nat.succ_ne_self @Nat.one_ne_zero)))) (And.intro (And.intro (And.intro @Nat.succ_ne_zero @not_true_eq_false) (And.intro @not_false_eq_true (And.intro @Int.natCast_nonneg @List.map_cons.{0,0}))) (And.intro (And.intro @List.map_nil.{0,0} (And.intro @List.cons_append.{0} @List.nil_append.{0})) (And.intro @List.append_nil.{0} (And.intro @decide_true @decide_false))))) :=
  (And.intro (And.intro (And.intro (And.intro @ATab.get_cons @and_true) (And.intro @true_and (And.intro @AV.c.injEq @Value.int.injEq))) (And.intro (And.intro @Value.bool.injEq @Bool.not_true) (And.intro @Bool.not_false (And.intro @Nat.succ_ne_self @Nat.one_ne_zero)))) (And.intro (And.intro (And.intro @Nat.succ_ne_zero @not_true_eq_false) (And.intro @not_false_eq_true (And.intro @Int.natCast_nonneg @List.map_cons.{0,0}))) (And.intro (And.intro @List.map_nil.{0,0} (And.intro @List.cons_append.{0} @List.nil_append.{0})) (And.intro @List.append_nil.{0} (And.intro @decide_true @decide_false)))))
end
section
open Go.RowKit
theorem enters_of {P : Program} {f : FuncId} {fn : Func} {c : Code} (hf : P.funcs[f]? = some fn) (hb : fn.body = some c) (hname : (fn.name == "runtime.NumGoroutine") = false) : Enters P f := fun args w => by
  have : ¬ fn.name = "runtime.NumGoroutine" := by simpa using hname
  simp [callFunc, Sem.run_bind, hf, this, hb]
theorem rtc {w : World} {S : Nat → Prop} {v u : Value} (h : RT w S v (.c u)) : v = u := by cases h; rfl
theorem callT {u : Option (Nat × List Nat)} {P : Program} {st : ASt} {g : FuncId} {args : List AV} {K : AV → ASt → Prop} {r : AV} (h : ADet P g (args.map (dref st.tab)) ⟨r, [], 0⟩) (ho : roL args ∨ r.plain) (hk : K (r.shift st.next) st) : aCall u P st g args K :=
  callR h (ho.imp id fun h => ⟨h, trivial⟩) hk
theorem take_snoc {α β : Type} (f : α → β) (l : List α) {k : Nat} (h : k < l.length) : (l.take (k + 1)).map f = (l.take k).map f ++ [f l[k]] := by
  rw [List.take_add_one, List.getElem?_eq_getElem h, List.map_append]
  rfl
theorem callO {u : Option (Nat × List Nat)} {P : Program} {st : ASt} {g : FuncId} {args : List AV} {K : AV → ASt → Prop} {e : TypeId} {sz : Nat} {rows : List (List AV)} (h : ADet P g (args.map (dref st.tab)) (own e sz rows)) (ho : roL args ∨ ∀ row ∈ rows, ∀ av ∈ row, av.plain) (hk : K (.osl st.next) ⟨st.n, st.env, (st.next, some (.row e sz rows)) :: st.tab, st.next + 1⟩) : aCall u P st g args K :=
  callR h (ho.imp id fun h => ⟨trivial, h, trivial⟩) (by
    have e1 : (own e sz rows).r.shift st.next = .osl st.next := by simp [own, AV.shift]
    have e2 : (own e sz rows).tab.shift st.next = [(st.next, some (.row e sz rows))] := by simp [own, ATab.shift, AObj.shift]
    rw [e1, e2]
    exact hk)
theorem ints_plain {l : List Int} : ∀ row ∈ l.map (fun n => [eI n]), ∀ av ∈ row, av.plain := fun row hr av ha => by
  obtain ⟨n, _, rfl⟩ := List.mem_map.1 hr
  simp at ha
  subst ha
  trivial
theorem fold_snoc {α β : Type} (f : β → α → β) (b : β) (l : List α) {k : Nat} (h : k < l.length) : (l.take (k + 1)).foldl f b = f ((l.take k).foldl f b) l[k] := by
  rw [List.take_add_one, List.getElem?_eq_getElem h, List.foldl_append]
  rfl
/-- what is a value of the one is one of the other -/
inductive Fits0 : AV → AV → Prop
  | refl (a : AV) : Fits0 a a
  | nil (sz : Nat) : Fits0 (.c (.slice none 0 0)) (.sl sz [])
def RowFit : List AV → List AV → Prop
  | [], [] => True
  | a :: l, b :: l' => Fits0 a b ∧ RowFit l l'
  | _, _ => False
def RowsFit : List (List AV) → List (List AV) → Prop
  | [], [] => True
  | a :: l, b :: l' => RowFit a b ∧ RowsFit l l'
  | _, _ => False
inductive Fits1 : AV → AV → Prop
  | refl (a : AV) : Fits1 a a
  | nil (sz : Nat) : Fits1 (.c (.slice none 0 0)) (.sl sz [])
  | rows {sz : Nat} {r r' : List (List AV)} (h : RowsFit r r') : Fits1 (.sl sz r) (.sl sz r')
def FitsL : List AV → List AV → Prop
  | [], [] => True
  | a :: l, b :: l' => Fits1 a b ∧ FitsL l l'
  | _, _ => False
inductive FitsA : AV → AV → Prop
  | one {a b : AV} (h : Fits1 a b) : FitsA a b
  | agg {l l' : List AV} (h : FitsL l l') : FitsA (.agg l) (.agg l')
def FitsAs : List AV → List AV → Prop
  | [], [] => True
  | a :: l, b :: l' => FitsA a b ∧ FitsAs l l'
  | _, _ => False
theorem Fits0.rt {w : World} {S : Nat → Prop} {v : Value} {a b : AV} (h : Fits0 a b) (hr : RT w S v a) : RT w S v b := by
  cases h with
  | refl => exact hr
  | nil sz =>
    rw [rtc hr]
    exact .sl none 0 0 sz [] 0 0 (fun _ _ => undef) rfl (Nat.le_refl _) (by omega) (fun h => by omega) (by simp) (fun h => by omega) (by simp) (by simp)
theorem RowFit.spec : ∀ {l l' : List AV}, RowFit l l' → l.length = l'.length ∧ ∀ (j : Nat) (b : AV), l'[j]? = some b → ∃ a, l[j]? = some a ∧ Fits0 a b
  | [], [], _ => ⟨rfl, fun j b h => by simp at h⟩
  | a :: l, b :: l', h => by
    obtain ⟨h1, h2⟩ := RowFit.spec h.2
    refine ⟨by simp [h1], fun j b' h3 => ?_⟩
    cases j with
    | zero =>
      simp at h3
      subst h3
      exact ⟨a, rfl, h.1⟩
    | succ j => exact h2 j b' (by simpa using h3)
  | [], _ :: _, h => h.elim
  | _ :: _, [], h => h.elim
theorem RowsFit.spec : ∀ {l l' : List (List AV)}, RowsFit l l' → l.length = l'.length ∧ ∀ (j : Nat) (b : List AV), l'[j]? = some b → ∃ a, l[j]? = some a ∧ RowFit a b
  | [], [], _ => ⟨rfl, fun j b h => by simp at h⟩
  | a :: l, b :: l', h => by
    obtain ⟨h1, h2⟩ := RowsFit.spec h.2
    refine ⟨by simp [h1], fun j b' h3 => ?_⟩
    cases j with
    | zero =>
      simp at h3
      subst h3
      exact ⟨a, rfl, h.1⟩
    | succ j => exact h2 j b' (by simpa using h3)
  | [], _ :: _, h => h.elim
  | _ :: _, [], h => h.elim
theorem Fits1.rt {w : World} {S : Nat → Prop} {v : Value} {a b : AV} (h : Fits1 a b) (hr : RT w S v a) : RT w S v b := by
  cases h with
  | refl => exact hr
  | nil sz => exact (Fits0.nil sz).rt hr
  | rows h =>
    rename_i sz r r'
    obtain ⟨hl, hx⟩ := h.spec
    cases hr with
    | sl A n cap sz rows b o U hn hc hm hA hs hcell hone hr =>
      have key : ∀ i j row' av', r'[i]? = some row' → row'[j]? = some av' → ∃ row av, r[i]? = some row ∧ row[j]? = some av ∧ Fits0 av av' := fun i j row' av' h1 h2 => by
        obtain ⟨row, h3, h4⟩ := hx i row' h1
        obtain ⟨av, h5, h6⟩ := h4.spec.2 j av' h2
        exact ⟨row, av, h3, h5, h6⟩
      refine .sl A n cap sz r' b o U (hn.trans hl) hc hm hA (fun row' hrow => ?_) (fun h0 i j row' av' h1 h2 => ?_) (fun i j row' av' h1 h2 => ?_) (fun i j row' av' h1 h2 => ?_)
      · obtain ⟨i, hi⟩ := List.getElem?_of_mem hrow
        obtain ⟨row, h3, h4⟩ := hx i row' hi
        rw [← h4.spec.1]
        exact hs row (List.mem_of_getElem? h3)
      · obtain ⟨row, av, h3, h4, _⟩ := key i j row' av' h1 h2
        exact hcell h0 i j row av h3 h4
      · obtain ⟨row, av, h3, h4, _⟩ := key i j row' av' h1 h2
        exact hone i j row av h3 h4
      · obtain ⟨row, av, h3, h4, h5⟩ := key i j row' av' h1 h2
        exact h5.rt (hr i j row av h3 h4)
theorem FitsL.spec : ∀ {l l' : List AV}, FitsL l l' → l.length = l'.length ∧ ∀ (j : Nat) (a b : AV), l[j]? = some a → l'[j]? = some b → Fits1 a b
  | [], [], _ => ⟨rfl, fun j a b h => by simp at h⟩
  | a :: l, b :: l', h => by
    obtain ⟨h1, h2⟩ := FitsL.spec h.2
    refine ⟨by simp [h1], fun j a' b' h3 h4 => ?_⟩
    cases j with
    | zero =>
      simp at h3 h4
      subst h3 h4
      exact h.1
    | succ j => exact h2 j a' b' (by simpa using h3) (by simpa using h4)
  | [], _ :: _, h => h.elim
  | _ :: _, [], h => h.elim
theorem FitsA.rt {w : World} {S : Nat → Prop} {v : Value} {a b : AV} (h : FitsA a b) (hr : RT w S v a) : RT w S v b := by
  cases h with
  | one h => exact h.rt hr
  | agg h =>
    obtain ⟨hl, hx⟩ := h.spec
    cases hr with
    | agg xs cs hn hc =>
      refine .agg xs _ (hn.trans hl) fun j x av h1 h2 => ?_
      rename_i l l'
      have hj : j < l'.length := (List.getElem?_eq_some_iff.1 h2).1
      obtain ⟨a, ha⟩ : ∃ a, l[j]? = some a := ⟨_, List.getElem?_eq_getElem (by omega)⟩
      exact (hx j a av ha h2).rt (hc j x a h1 ha)
theorem FitsAs.spec : ∀ {l l' : List AV}, FitsAs l l' → l.length = l'.length ∧ ∀ (j : Nat) (a b : AV), l[j]? = some a → l'[j]? = some b → FitsA a b
  | [], [], _ => ⟨rfl, fun j a b h => by simp at h⟩
  | a :: l, b :: l', h => by
    obtain ⟨h1, h2⟩ := FitsAs.spec h.2
    refine ⟨by simp [h1], fun j a' b' h3 h4 => ?_⟩
    cases j with
    | zero =>
      simp at h3 h4
      subst h3 h4
      exact h.1
    | succ j => exact h2 j a' b' (by simpa using h3) (by simpa using h4)
  | [], _ :: _, h => h.elim
  | _ :: _, [], h => h.elim
theorem ADet.fits {P : Program} {f : FuncId} {args args' : List AV} {R : Res} (h : ADet P f args' R) (hf : FitsAs args args') : ADet P f args R :=
  ⟨h.1, fun S w vs h1 h2 h3 => h.2 S w vs h1 (h2.trans hf.spec.1) fun j v av h4 h5 => by
    have hj : j < args'.length := (List.getElem?_eq_some_iff.1 h5).1
    obtain ⟨a, ha⟩ : ∃ a, args[j]? = some a := ⟨_, List.getElem?_eq_getElem (by rw [hf.spec.1]; exact hj)⟩
    exact (hf.spec.2 j a av ha h5).rt (h3 j v a h4 ha)⟩
theorem ARel.fits {P : Program} {f : FuncId} {args args' : List AV} {Post : Res → Prop} (h : ARel P f args' Post) (hf : FitsAs args args') : ARel P f args Post :=
  ⟨h.1, fun S w vs h1 h2 h3 => h.2 S w vs h1 (h2.trans hf.spec.1) fun j v av h4 h5 => by
    have hj : j < args'.length := (List.getElem?_eq_some_iff.1 h5).1
    obtain ⟨a, ha⟩ : ∃ a, args[j]? = some a := ⟨_, List.getElem?_eq_getElem (by rw [hf.spec.1]; exact hj)⟩
    exact (hf.spec.2 j a av ha h5).rt (h3 j v a h4 ha)⟩
/-- a call that gives back some number -/
theorem callPI {u : Option (Nat × List Nat)} {P : Program} {st : ASt} {g : FuncId} {args : List AV} {dst : Option Nat} {K : ASt → Prop} (h : ARel P g (args.map (dref st.tab)) fun R => ∃ n, R = val (.int .i64 n)) (hk : ∀ n, K (st.put dst (.c (.int .i64 n)))) : aCall u P st g args (aK2 dst K) :=
  callP h fun R ⟨n, hR⟩ => by subst hR; exact ⟨.inr ⟨trivial, trivial⟩, hk n⟩
/-- a call that gives back some truth -/
theorem callPB {u : Option (Nat × List Nat)} {P : Program} {st : ASt} {g : FuncId} {args : List AV} {dst : Option Nat} {K : ASt → Prop} {Q : Bool → Prop} (h : ARel P g (args.map (dref st.tab)) fun R => ∃ b, R = val (.bool b) ∧ Q b) (hk : ∀ b, Q b → K (st.put dst (.c (.bool b)))) : aCall u P st g args (aK2 dst K) :=
  callP h fun R ⟨b, hR, hq⟩ => by subst hR; exact ⟨.inr ⟨trivial, trivial⟩, hk b hq⟩
/-- a call that gives back some numbers of its own -/
theorem callPO {u : Option (Nat × List Nat)} {P : Program} {st : ASt} {g : FuncId} {args : List AV} {K : AV → ASt → Prop} {e : TypeId} {Q : List Int → Prop} (h : ARel P g (args.map (dref st.tab)) fun R => ∃ o : List Int, R = own e 1 (o.map fun n => [eI n]) ∧ Q o) (hk : ∀ o, Q o → K (.osl st.next) ⟨st.n, st.env, (st.next, some (.row e 1 (o.map fun n => [eI n]))) :: st.tab, st.next + 1⟩) : aCall u P st g args K :=
  callP h fun R ⟨o, hR, hq⟩ => by
    subst hR
    have e1 : (own e 1 (o.map fun n => [eI n])).r.shift st.next = .osl st.next := by simp [own, AV.shift]
    have e2 : (own e 1 (o.map fun n => [eI n])).tab.shift st.next = [(st.next, some (.row e 1 (o.map fun n => [eI n])))] := by simp [own, ATab.shift, AObj.shift]
    rw [e1, e2]
    exact ⟨.inr ⟨trivial, ints_plain, trivial⟩, hk o hq⟩
theorem map_snoc (l : List Int) (n : Int) : (l ++ [n]).map (fun n => [eI n]) = l.map (fun n => [eI n]) ++ [[eI n]] := by simp
theorem map_app (a b : List Int) : (a ++ b).map (fun n => [eI n]) = a.map (fun n => [eI n]) ++ b.map (fun n => [eI n]) := by simp
section
variable {P : Program} {w : World} {d : Nat} {xs ys : Array Value} {f : Field} {fs : List Field}
theorem eqF_cons {x y : Value} {b : Bool} {u : TypeDesc} (hn : f.name ≠ "_") (hu : P.underlying f.type = some u) (hs : ∀ fs, u ≠ .struct fs) (ha : ∀ n e, u ≠ .array n e) (hx : xs[f.offset]? = some x) (hy : ys[f.offset]? = some y) (he : (Op.equalIn d f.type x y).run P w = .ok b w) : (Op.eqFields d xs ys (f :: fs)).run P w = if b = true then (Op.eqFields d xs ys fs).run P w else .ok false w := by
  have hp : ∀ (zs : Array Value) (z : Value), zs[f.offset]? = some z → (part f.type zs f.offset).run P w = .ok z w := fun zs z hz => by
    simp only [part, Sem.run_bind, isAgg, run_underlying hu, Result.andThen_ok]
    cases u with
    | struct fs => exact absurd rfl (hs fs)
    | array n e => exact absurd rfl (ha n e)
    | _ => simp [hz]
  simp only [Op.eqFields, hn, ne_eq, not_false_eq_true, if_true, Sem.run_bind, hp xs x hx, hp ys y hy, Result.andThen_ok, he]
  cases b <;> simp
/-- a struct's cells compared, one behind the other: each a truth, a number or a text -/
def cellEq : Value → Value → Option Bool
  | .bool a, .bool b => some (a == b)
  | .int k a, .int k' b => if k = k' then some (a == b) else none
  | .string a, .string b => some (a == b)
  | _, _ => none
def tyFits (P : Program) (t : TypeId) : Value → Bool
  | .bool _ => match P.underlying t with | some .bool => true | _ => false
  | .int k _ => match P.underlying t with | some (.int _) => true | _ => false
  | .string _ => match P.underlying t with | some .string => true | _ => false
  | _ => false
theorem cell_eq {t : TypeId} {x y : Value} {b : Bool} (h : cellEq x y = some b) (hx : tyFits P t x = true) : (Op.equalIn (d + 1) t x y).run P w = .ok b w ∧ ∃ u, P.underlying t = some u ∧ (∀ fs, u ≠ .struct fs) ∧ ∀ n e, u ≠ .array n e := by
  cases x <;> cases y <;> simp [cellEq] at h
  all_goals (unfold tyFits at hx; simp only at hx; split at hx)
  all_goals try cases hx
  · rename_i hu
    exact ⟨by simp [Op.equalIn, run_underlying hu, h], _, hu, by simp, by simp⟩
  · rename_i hu
    obtain ⟨rfl, rfl⟩ := h
    exact ⟨by simp [Op.equalIn, run_underlying hu], _, hu, by simp, by simp⟩
  · rename_i hu
    exact ⟨by simp [Op.equalIn, run_underlying hu, h], _, hu, by simp, by simp⟩
def cellsEq : List (Value × Value) → Option Bool
  | [] => some true
  | (x, y) :: l => match cellEq x y, cellsEq l with
    | some b, some c => some (b && c)
    | _, _ => none
theorem fields_eq : ∀ (fs : List Field) (l : List (Value × Value)) (b : Bool), fs.length = l.length → (∀ (k : Nat) (f : Field) (p : Value × Value), fs[k]? = some f → l[k]? = some p → f.name ≠ "_" ∧ tyFits P f.type p.1 = true ∧ xs[f.offset]? = some p.1 ∧ ys[f.offset]? = some p.2) → cellsEq l = some b → (Op.eqFields (d + 1) xs ys fs).run P w = .ok b w
  | [], [], b, _, _, h => by
    cases h
    simp [Op.eqFields]
  | f :: fs, (x, y) :: l, b, hl, hf, h => by
    unfold cellsEq at h
    split at h
    · rename_i b1 b2 h1 h2
      cases h
      obtain ⟨h3, h4, h5, h6⟩ := hf 0 f (x, y) rfl rfl
      obtain ⟨h7, u, hu, h8, h9⟩ := cell_eq (P := P) (w := w) (d := d) h1 h4
      rw [eqF_cons h3 hu h8 h9 h5 h6 h7, fields_eq fs l b2 (by simpa using hl) (fun k f p hk hp => hf (k + 1) f p (by simpa using hk) (by simpa using hp)) h2]
      cases b1 <;> simp
    · cases h
theorem structRun {t : TypeId} {op : BinOp} (l : List (Value × Value)) {b : Bool} (ht : P.underlying t = some (.struct (P.fieldsOf t))) (hs : P.stoodInHeld t = false) (hg : P.eqGuardType P.depth t = false) (hl : (P.fieldsOf t).toList.length = l.length)
    (hf : ∀ (k : Nat) (f : Field) (p : Value × Value), (P.fieldsOf t).toList[k]? = some f → l[k]? = some p → f.name ≠ "_" ∧ tyFits P f.type p.1 = true ∧ xs[f.offset]? = some p.1 ∧ ys[f.offset]? = some p.2) (h : cellsEq l = some b) (hop : op = .eql ∨ op = .neq) : BinRun P op t (.agg xs) (.agg ys) (.bool (if op matches .eql then b else !b)) := fun w x y => by
  have he : ∀ w, (Op.equalIn 10000 t (.agg xs) (.agg ys)).run P w = .ok b w := fun w => by
    rw [run_equalIn_agg w 9999 t xs ys ht hs]
    exact fields_eq (P := P) (d := 9998) _ l b hl hf h
  rcases hop with rfl | rfl
  · simp only [Sem.run_bind, run_eqGuard_agg w _ t x y xs ys hg, Result.andThen_ok, run_eql_struct, he]
    rfl
  · simp only [Sem.run_bind, run_eqGuard_agg w _ t x y xs ys hg, Result.andThen_ok, run_neq_struct, he]
    rfl
end
end
section
open Go.RowKit

theorem and_one_i64 (x : Int) : bits .and .i64 x 1 = x % 2 := by
  show IntKind.i64.wrap ((BitVec.ofInt 64 x &&& BitVec.ofInt 64 1).toNat : Int) = _
  have h : (BitVec.ofInt 64 x &&& BitVec.ofInt 64 1).toNat = (x % 2).toNat := by
    rw [BitVec.toNat_and, show (BitVec.ofInt 64 1).toNat = 1 from rfl, Nat.and_one_is_mod, BitVec.toNat_ofInt]
    omega
  rw [h]
  have : IntKind.i64.wrap (((x % 2).toNat : Nat) : Int) = ((x % 2).toNat : Int) := by
    simp [IntKind.wrap, IntKind.bits, IntKind.signed]
    omega
  rw [this]
  omega

structure Inst where
  op : Int
  la : Int
  ln : Int
  ra : Int
  rn : Int
  n : Int
  u : Int
structure St where
  vals : List Int
  opn : Int
  don : Int
  did : List Int
  cnt : List Int

def hasB (s i : Int) : Bool := decide (0 ≤ i) && decide (i < 31) && (s / 2 ^ i.toNat % 2 == 1)
def soB (op c : Int) : Bool :=
  if op = 3 then decide (c < 0) else if op = 4 then decide (c ≤ 0) else if op = 5 then decide (0 < c) else if op = 6 then decide (0 ≤ c) else if op = 7 then c == 0 else if op = 8 then c != 0 else false
def cmpI (a b : Int) : Int := if a < b then -1 else if b < a then 1 else 0
def valO (vals : List Int) (a n : Int) : Option Int := if a = -1 then some n else if a < 0 then none else vals[a.toNat]?
def arity (op : Int) : Int :=
  if 1 ≤ op ∧ op ≤ 14 then 0 else if op = 15 ∨ (19 ≤ op ∧ op ≤ 24) then 1 else if (16 ≤ op ∧ op ≤ 18) ∨ op = 25 ∨ op = 26 then 2 else -1
/-- how many formulas stand in the row behind one more sign -/
def pushN (d : Nat) (op : Int) : Option Nat :=
  if arity op = 0 then some (d + 1) else if arity op = 1 ∧ 1 ≤ d then some d else if arity op = 2 ∧ 2 ≤ d then some (d - 1) else none
def rowN : List Int → Nat → Option Nat
  | [], d => some d
  | op :: l, d => match pushN d op with
    | some d' => rowN l d'
    | none => none
/-- why a list of signs may be no formula -/
def checkE (l : List Int) : Int := if l.length = 0 then 12 else if 64 < l.length then 3 else if rowN l 0 = some 1 then 0 else 17
/-- one instruction, on a row of truths (the last one first); cm: what a comparison's two sides are to one another -/
def stepG (cm : Inst → Option Int) (opn don : Int) (x : Inst) (r : List Bool) : Option (List Bool) :=
  if x.op = 1 ∨ x.op = 2 then some ((x.op == 1) :: r)
  else if 3 ≤ x.op ∧ x.op ≤ 8 then
    match cm x with
    | some c => some (soB x.op c :: r)
    | none => none
  else if x.op = 9 then some (hasB opn x.n :: r)
  else if x.op = 10 then some (hasB don x.n :: r)
  else if x.op = 15 then
    match r with
    | a :: r => some ((!a) :: r)
    | [] => none
  else if 16 ≤ x.op ∧ x.op ≤ 18 then
    match r with
    | b :: a :: r => some ((if x.op = 16 then a && b else if x.op = 17 then a || b else !a || b) :: r)
    | _ => none
  else none
def runG (cm : Inst → Option Int) (opn don : Int) : List Inst → List Bool → Option (List Bool)
  | [], r => some r
  | x :: l, r => match stepG cm opn don x r with
    | some r' => runG cm opn don l r'
    | none => none
/-- what a condition is: its truth, or that it is none -/
def holdsG (cm : Inst → Option Int) (opn don : Int) (l : List Inst) : Option Bool :=
  if checkE (l.map Inst.op) ≠ 0 then none else
    match runG cm opn don l [] with
    | some (b :: _) => some b
    | _ => none
def cmS (vals : List Int) (x : Inst) : Option Int := match valO vals x.la x.ln, valO vals x.ra x.rn with
  | some a, some b => some (cmpI a b)
  | _, _ => none
def holdsO (l : List Inst) (s : St) : Option Bool := holdsG (cmS s.vals) s.opn s.don l
def optB (o : Option Bool) : Bool := o.getD false
def optE (o : Option Bool) : Int := if o.isSome then 0 else 17
end
section
open Go.RowKit Go.ChangeShapes Go.WideShapes Go.Deep

/-- S: the blocks that the data may lie in -/
structure Rep (α : Type) where
  size : Nat
  at_ : World → (Nat → Prop) → List Value → α → Prop
  len : ∀ {w : World} {S : Nat → Prop} {cs : List Value} {a : α}, at_ w S cs a → cs.length = size
  keep : ∀ {w w' : World} {S : Nat → Prop} {cs : List Value} {a : α}, at_ w S cs a → (∀ p : Addr, S p.block → w'.cell? p = w.cell? p) → at_ w' S cs a
  mono : ∀ {w : World} {S S' : Nat → Prop} {cs : List Value} {a : α}, at_ w S cs a → (∀ b, S b → S' b) → at_ w S' cs a

/-- the value v of one cell holds the plain value a -/
def Rep.one {α : Type} (r : Rep α) (w : World) (S : Nat → Prop) (v : Value) (a : α) : Prop := r.at_ w S [v] a
/-- the struct's value v holds the plain value a -/
def Rep.agg {α : Type} (r : Rep α) (w : World) (S : Nat → Prop) (v : Value) (a : α) : Prop := ∃ cs : Array Value, v = .agg cs ∧ r.at_ w S cs.toList a

def intR (k : IntKind) : Rep Int where
  size := 1
  at_ := fun _ _ cs n => cs = [.int k n] ∧ (Lit.int k n).wf = true
  len := fun h => by rw [h.1]; rfl
  keep := fun h _ => h
  mono := fun h _ => h
def boolR : Rep Bool where
  size := 1
  at_ := fun _ _ cs b => cs = [.bool b]
  len := fun h => by rw [h]; rfl
  keep := fun h _ => h
  mono := fun h _ => h
def strR : Rep ByteArray where
  size := 1
  at_ := fun _ _ cs s => cs = [.string s] ∧ s.size ≤ 9223372036854775807
  len := fun h => by rw [h.1]; rfl
  keep := fun h _ => h
  mono := fun h _ => h

/-- the cells of a list of things, one behind the other, at an address -/
def rowAt {α : Type} (r : Rep α) (w : World) (S : Nat → Prop) (b o : Nat) (l : List α) : Prop :=
  ∀ i (h : i < l.length), ∃ cs, (∀ j u, cs[j]? = some u → w.cell? ⟨b, o + i * r.size + j, none⟩ = some u) ∧ r.at_ w S cs l[i]
theorem rowAt_keep {α : Type} {r : Rep α} {w w' : World} {S : Nat → Prop} {b o : Nat} {l : List α} (h : rowAt r w S b o l) (hb : S b) (hk : ∀ p : Addr, S p.block → w'.cell? p = w.cell? p) : rowAt r w' S b o l := by
  intro i hi
  obtain ⟨cs, h1, h2⟩ := h i hi
  exact ⟨cs, fun j u hu => (hk _ hb).trans (h1 j u hu), r.keep h2 hk⟩
theorem rowAt_mono {α : Type} {r : Rep α} {w : World} {S S' : Nat → Prop} {b o : Nat} {l : List α} (h : rowAt r w S b o l) (hB : ∀ b, S b → S' b) : rowAt r w S' b o l := by
  intro i hi
  obtain ⟨cs, h1, h2⟩ := h i hi
  exact ⟨cs, h1, r.mono h2 hB⟩

def sliceR {α : Type} (r : Rep α) : Rep (List α) where
  size := 1
  at_ := fun w S cs l => ∃ A c, cs = [.slice A l.length c] ∧ l.length ≤ c ∧ c ≤ 9223372036854775807 ∧ (0 < l.length → ∃ b o, A = some ⟨b, o, none⟩ ∧ S b ∧ rowAt r w S b o l)
  len := fun ⟨A, c, h, _⟩ => by rw [h]; rfl
  keep := fun ⟨A, c, h1, h2, h3, h4⟩ hk => ⟨A, c, h1, h2, h3, fun hl => by
    obtain ⟨b, o, e, hb, hr⟩ := h4 hl
    exact ⟨b, o, e, hb, rowAt_keep hr hb hk⟩⟩
  mono := fun ⟨A, c, h1, h2, h3, h4⟩ hB => ⟨A, c, h1, h2, h3, fun hl => by
    obtain ⟨b, o, e, hb, hr⟩ := h4 hl
    exact ⟨b, o, e, hB b hb, rowAt_mono hr hB⟩⟩

/-- a struct of two parts -/
def pairR {α β : Type} (r : Rep α) (s : Rep β) : Rep (α × β) where
  size := r.size + s.size
  at_ := fun w S cs x => ∃ c1 c2, cs = c1 ++ c2 ∧ r.at_ w S c1 x.1 ∧ s.at_ w S c2 x.2
  len := fun ⟨c1, c2, h, h1, h2⟩ => by rw [h, List.length_append, r.len h1, s.len h2]
  keep := fun ⟨c1, c2, h, h1, h2⟩ hk => ⟨c1, c2, h, r.keep h1 hk, s.keep h2 hk⟩
  mono := fun ⟨c1, c2, h, h1, h2⟩ hB => ⟨c1, c2, h, r.mono h1 hB, s.mono h2 hB⟩
def nilR : Rep Unit where
  size := 0
  at_ := fun _ _ cs _ => cs = []
  len := fun h => by rw [h]; rfl
  keep := fun h _ => h
  mono := fun h _ => h
theorem Rep.below {α : Type} {r : Rep α} {w w' : World} {S : Nat → Prop} {B' : Nat} {cs : List Value} {a : α} (h : r.at_ w S cs a) (hb : Below B' w w') (hB : ∀ b, S b → b < B') : r.at_ w' S cs a :=
  r.keep h fun p hp => hb.cell (hB _ hp)
theorem Rep.one_below {α : Type} {r : Rep α} {w w' : World} {S : Nat → Prop} {B' : Nat} {v : Value} {a : α} (h : r.one w S v a) (hb : Below B' w w') (hB : ∀ b, S b → b < B') : r.one w' S v a := Rep.below (r := r) h hb hB
/-- an int's range -/
theorem wf_i64 {n : Int} (h : (Lit.int .i64 n).wf = true) : -9223372036854775808 ≤ n ∧ n ≤ 9223372036854775807 := by
  simpa [Lit.wf, IntKind.min, IntKind.max, IntKind.signed, IntKind.bits] using h
theorem wf_i64_mk {n : Int} (h1 : -9223372036854775808 ≤ n) (h2 : n ≤ 9223372036854775807) : (Lit.int .i64 n).wf = true := by
  simp [Lit.wf, IntKind.min, IntKind.max, IntKind.signed, IntKind.bits]; omega

/-! ### the elements of a slice, met in a walk -/
section
variable {α : Type} {r : Rep α} {w w' : World} {S : Nat → Prop} {v : Value} {l : List α}
theorem slice_form (h : (sliceR r).one w S v l) : ∃ A c, v = .slice A l.length c ∧ l.length ≤ c ∧ c ≤ 9223372036854775807 := by
  obtain ⟨A, c, h1, h2, h3, _⟩ := h
  exact ⟨A, c, by simpa using h1, h2, h3⟩
theorem slice_some {A : Option Addr} {n c : Nat} (h : (sliceR r).one w S (.slice A n c) l) (hn : 0 < l.length) : ∃ b o, A = some ⟨b, o, none⟩ ∧ S b ∧ rowAt r w S b o l := by
  obtain ⟨A', c', h1, _, _, h4⟩ := h
  simp at h1
  obtain ⟨rfl, _, _⟩ := h1
  exact h4 hn
theorem slice_at1 (hs : r.size = 1) {b o c : Nat} {n : Nat} (h : (sliceR r).one w S (.slice (some ⟨b, o, none⟩) n c) l) {k : Nat} (hk : k < l.length) : ∃ u, w.cell? ⟨b, o + k, none⟩ = some u ∧ r.at_ w S [u] l[k] := by
  obtain ⟨b', o', e, _, hr⟩ := slice_some h (by omega)
  simp at e
  obtain ⟨rfl, rfl⟩ := e
  obtain ⟨cs, h1, h2⟩ := hr k hk
  have hl := r.len h2
  rw [hs] at hl h1
  match cs, hl with
  | [u], _ => exact ⟨u, by simpa using h1 0 u rfl, h2⟩
theorem slice_nil (w : World) (S : Nat → Prop) (r : Rep α) : (sliceR r).one w S (.slice none 0 0) [] := ⟨none, 0, rfl, Nat.le_refl _, by omega, fun h => absurd h (by simp)⟩
/-- an owned row, seen as a slice of things -/
theorem slice_own {base : Nat} {e : TypeId} {size n : Nat} {xs : List Value} (h : w.ownsRow base e size v n xs) (hs : r.size = size) (hn : n = l.length) (hx : ∀ i (hi : i < l.length), r.at_ w (fun b => base ≤ b ∧ b < w.heap.size) ((xs.drop (i * size)).take size) l[i]) :
    (sliceR r).one w (fun b => base ≤ b ∧ b < w.heap.size) v l := by
  subst hn
  rcases h.2 with ⟨rfl, h0⟩ | ⟨g, cap, cur, rfl, hb, hg, hc, hm, hcs, ht⟩
  · refine ⟨none, 0, by rw [h0], by omega, by omega, fun hl => by omega⟩
  · refine ⟨some ⟨g, 0, none⟩, cap, rfl, hc, by simpa [maxLen] using hm, fun hl => ⟨g, 0, rfl, ⟨hb, (Array.getElem?_eq_some_iff.1 hg).1⟩, fun i hi => ⟨_, fun j u hu => ?_, hx i hi⟩⟩⟩
    have hj : j < size := by
      have := (List.getElem?_eq_some_iff.1 hu).1
      simp at this; omega
    rw [List.getElem?_take, if_pos hj, List.getElem?_drop] at hu
    have := h.cells (g := g) rfl _ u hu
    rw [addAddr0] at this
    rw [hs, Nat.zero_add]
    exact this
theorem slice_own1 {base : Nat} {e : TypeId} {n : Nat} (f : α → Value) (h : w.ownsRow base e 1 v n (l.map f)) (hs : r.size = 1) (hx : ∀ a ∈ l, r.at_ w (fun b => base ≤ b ∧ b < w.heap.size) [f a] a) : (sliceR r).one w (fun b => base ≤ b ∧ b < w.heap.size) v l := by
  have hn : n = l.length := by have := h.1; simp at this; omega
  refine slice_own h hs hn fun i hi => ?_
  have e : (((l.map f).drop (i * 1)).take 1) = [f l[i]] := by
    rw [Nat.mul_one, List.drop_eq_getElem_cons (by simpa using hi)]
    simp
  rw [e]
  exact hx _ (List.getElem_mem hi)
theorem slice_below (h : (sliceR r).one w S v l) {B' : Nat} (hb : Below B' w w') (hB : ∀ b, S b → b < B') : (sliceR r).one w' S v l := Rep.one_below h hb hB
theorem slice_mono (h : (sliceR r).one w S v l) {S' : Nat → Prop} (hB : ∀ b, S b → S' b) : (sliceR r).one w S' v l := Rep.mono (sliceR r) h hB
theorem slice_keep (h : (sliceR r).one w S v l) (hk : ∀ p : Addr, S p.block → w'.cell? p = w.cell? p) : (sliceR r).one w' S v l := Rep.keep (sliceR r) h hk
end
theorem ints_at {w : World} {S : Nat → Prop} {b o c n : Nat} {l : List Int} (h : (sliceR (intR .i64)).one w S (.slice (some ⟨b, o, none⟩) n c) l) {k : Nat} (hk : k < l.length) :
    w.cell? ⟨b, o + k, none⟩ = some (.int .i64 l[k]) ∧ -9223372036854775808 ≤ l[k] ∧ l[k] ≤ 9223372036854775807 := by
  obtain ⟨u, h1, h2⟩ := slice_at1 (r := intR .i64) rfl h hk
  obtain ⟨h2, h3⟩ := h2
  simp at h2
  subst h2
  exact ⟨h1, wf_i64 h3⟩
theorem exists_list {α : Type} {p : Nat → α → Prop} : ∀ {n : Nat}, (∀ i, i < n → ∃ y, p i y) → ∃ l : List α, l.length = n ∧ ∀ i (h : i < l.length), p i l[i] := by
  intro n
  induction n with
  | zero => intro _; exact ⟨[], rfl, fun i h => absurd h (by simp)⟩
  | succ n ih =>
    intro h
    obtain ⟨l, h1, h2⟩ := ih fun i hi => h i (by omega)
    obtain ⟨y, hy⟩ := h n (by omega)
    refine ⟨l ++ [y], by simp [h1], fun i hi => ?_⟩
    by_cases hin : i < l.length
    · rw [List.getElem_append_left hin]; exact h2 i hin
    · have : i = l.length := by simp at hi; omega
      subst this
      rw [List.getElem_append_right (by omega)]
      simpa [h1] using hy

/-! ### arguments open into it -/
def Opens {α : Type} (P : Program) (t : TypeId) (r : Rep α) : Prop := ∀ (H : Type) (enc : TypeId × Value → H) (w : World) (fuel : Nat) (cs : List Value) (x : DataW H × List MemPlace),
  DataW.trod enc P w 0 (fun _ => true) true fuel t cs = some x → ∃ a, r.at_ w (fun b => b < w.heap.size) cs a
section
variable {P : Program}
theorem opens_int {t : TypeId} {k : IntKind} (h : P.underlying t = some (.int k)) : Opens P t (intR k) := by
  intro H enc w fuel cs x hx
  obtain ⟨n, rfl, _, hw⟩ := DataW.trod_int h hx
  exact ⟨n, rfl, hw⟩
theorem opens_bool {t : TypeId} (h : P.underlying t = some .bool) : Opens P t boolR := by
  intro H enc w fuel cs x hx
  obtain ⟨b, rfl, _⟩ := DataW.trod_bool h hx
  exact ⟨b, rfl⟩
theorem opens_slice {α : Type} {t e : TypeId} {r : Rep α} (ht : P.underlying t = some (.slice e)) (hs : P.cellsOf e = r.size) (hp : 0 < r.size) (ho : Opens P e r) : Opens P t (sliceR r) := by
  intro H enc w fuel cs x hx
  rcases Go.Deep.open_slice ht hx with ⟨rfl, _⟩ | ⟨a, len, cap, m, n, D, Pl, rfl, _, hl, hm, hmm, _, hi⟩
  · exact ⟨[], slice_nil _ _ _⟩
  · simp only [if_true] at hmm
    subst hmm
    obtain ⟨l, hll, hl2⟩ := exists_list (n := len) (p := fun i y => ∃ cs', w.cells? 0 (a.add (i * P.cellsOf e)) (P.cellsOf e) = some cs' ∧ r.at_ w (fun b => b < w.heap.size) cs' y) (fun i hil => by
      obtain ⟨cs', h1, h2⟩ := hi i (by omega)
      obtain ⟨y, hy⟩ := ho H enc w n cs' _ h2
      exact ⟨y, cs', h1, hy⟩)
    subst hll
    refine ⟨l, some a, _, rfl, hl, by simpa [maxLen] using hm, fun h0 => ?_⟩
    obtain ⟨cs0, h1, h2⟩ := hl2 0 h0
    obtain ⟨_, hlen, hc⟩ := World.cells?_some h1
    have hc0 := hc 0 (by omega)
    have hlt : 0 < cs0.length := by rw [hlen]; omega
    rw [List.getElem?_eq_getElem hlt] at hc0
    have e0 : (a.add (0 * P.cellsOf e)).add 0 = a := by simp [Addr.add]
    rw [e0] at hc0
    have hb := World.block_lt_of_cell? w a hc0
    have hsp : a.spot = none := by
      unfold World.cell? at hc0
      split at hc0
      · split at hc0
        · cases hc0
        · rename_i h5; simpa using h5
      · cases hc0
    obtain ⟨b, o, sp⟩ := a
    simp only at hsp hb
    subst hsp
    refine ⟨b, o, rfl, hb, fun i hi' => ?_⟩
    obtain ⟨cs', h1, h2⟩ := hl2 i hi'
    refine ⟨cs', fun j u hu => ?_, h2⟩
    obtain ⟨_, hlen', hc'⟩ := World.cells?_some h1
    have hj : j < P.cellsOf e := by
      have := (List.getElem?_eq_some_iff.1 hu).1
      omega
    have := hc' j hj
    rw [hu, Go.Deep.add_add, hs] at this
    rw [← this]
    congr 1
    unfold Addr.add
    split
    · rename_i h6; simp_all
    · simp [Nat.add_assoc]

end
end
section
open Go.RowKit

def ok64 (n : Int) : Prop := -9223372036854775808 ≤ n ∧ n ≤ 9223372036854775807
def Inst.cells (x : Inst) : List Value := [.int .i64 x.op, .int .i64 x.la, .int .i64 x.ln, .int .i64 x.ra, .int .i64 x.rn, .int .i64 x.n, .int .i64 x.u]
def Inst.ok (x : Inst) : Prop := ok64 x.op ∧ ok64 x.la ∧ ok64 x.ln ∧ ok64 x.ra ∧ ok64 x.rn ∧ ok64 x.n ∧ ok64 x.u
def instR : Rep Inst where
  size := 7
  at_ := fun _ _ cs x => cs = x.cells ∧ x.ok
  len := fun h => by rw [h.1]; rfl
  keep := fun h _ => h
  mono := fun h _ => h

structure Item where
  op : Int
  ln : ByteArray
  lv : Int
  rn : ByteArray
  rv : Int
  name : ByteArray
  user : ByteArray
  line : Int
  col : Int
def Item.cells (x : Item) : List Value := [.int .i64 x.op, .string x.ln, .int .i64 x.lv, .string x.rn, .int .i64 x.rv, .string x.name, .string x.user, .int .i64 x.line, .int .i64 x.col]
def Item.ok (x : Item) : Prop := ok64 x.op ∧ ok64 x.lv ∧ ok64 x.rv ∧ ok64 x.line ∧ ok64 x.col ∧ x.ln.size ≤ 9223372036854775807 ∧ x.rn.size ≤ 9223372036854775807 ∧ x.name.size ≤ 9223372036854775807 ∧ x.user.size ≤ 9223372036854775807
def itemR : Rep Item where
  size := 9
  at_ := fun _ _ cs x => cs = x.cells ∧ x.ok
  len := fun h => by rw [h.1]; rfl
  keep := fun h _ => h
  mono := fun h _ => h

/-- the cells of one thing in a slice of things that are plain cells -/
theorem plain_at {α : Type} {r : Rep α} {cells : α → List Value} {ok : α → Prop} (hr : ∀ w S cs x, r.at_ w S cs x → cs = cells x ∧ ok x) {w : World} {S : Nat → Prop} {b o c n : Nat} {l : List α} (h : (sliceR r).one w S (.slice (some ⟨b, o, none⟩) n c) l) {k : Nat} (hk : k < l.length) :
    (∀ j u, (cells l[k])[j]? = some u → w.cell? ⟨b, o + k * r.size + j, none⟩ = some u) ∧ ok l[k] := by
  obtain ⟨b', o', e, _, hrow⟩ := slice_some h (by omega)
  simp at e
  obtain ⟨rfl, rfl⟩ := e
  obtain ⟨cs, h1, h2⟩ := hrow k hk
  obtain ⟨rfl, h3⟩ := hr _ _ _ _ h2
  exact ⟨h1, h3⟩
theorem insts_at {w : World} {S : Nat → Prop} {b o c n : Nat} {l : List Inst} (h : (sliceR instR).one w S (.slice (some ⟨b, o, none⟩) n c) l) {k : Nat} (hk : k < l.length) :
    (∀ j u, (l[k].cells)[j]? = some u → w.cell? ⟨b, o + k * 7 + j, none⟩ = some u) ∧ l[k].ok := plain_at (r := instR) (cells := Inst.cells) (ok := Inst.ok) (fun _ _ _ _ h => h) h hk
theorem items_at {w : World} {S : Nat → Prop} {b o c n : Nat} {l : List Item} (h : (sliceR itemR).one w S (.slice (some ⟨b, o, none⟩) n c) l) {k : Nat} (hk : k < l.length) :
    (∀ j u, (l[k].cells)[j]? = some u → w.cell? ⟨b, o + k * 9 + j, none⟩ = some u) ∧ l[k].ok := plain_at (r := itemR) (cells := Item.cells) (ok := Item.ok) (fun _ _ _ _ h => h) h hk

/-- an owned row of things that are plain cells -/
theorem slice_ownP {α : Type} {r : Rep α} (cells : α → List Value) {l : List α} {w : World} {v : Value} {base : Nat} {e : TypeId} {n : Nat} (hx : ∀ x ∈ l, r.at_ w (fun b => base ≤ b ∧ b < w.heap.size) (cells x) x) (h : w.ownsRow base e r.size v n (l.flatMap cells)) (h0 : 0 < r.size) :
    (sliceR r).one w (fun b => base ≤ b ∧ b < w.heap.size) v l := by
  have hlen : ∀ x ∈ l, (cells x).length = r.size := fun x hx' => r.len (hx x hx')
  have key : ∀ (l : List α), (∀ x ∈ l, (cells x).length = r.size) → (l.flatMap cells).length = l.length * r.size ∧ ∀ i (hi : i < l.length), ((l.flatMap cells).drop (i * r.size)).take r.size = cells l[i] := by
    intro l
    induction l with
    | nil => intro _; exact ⟨by simp, fun i hi => by simp at hi⟩
    | cons a l ih =>
      intro hl
      obtain ⟨h1, h2⟩ := ih (fun x hx => hl x (by simp [hx]))
      have ha := hl a (by simp)
      refine ⟨by rw [List.flatMap_cons, List.length_append, h1, ha, List.length_cons, Nat.succ_mul]; omega, fun i hi => ?_⟩
      rw [List.flatMap_cons]
      cases i with
      | zero => rw [Nat.zero_mul, List.drop_zero, ← ha, List.take_left]; rfl
      | succ i =>
        rw [Nat.succ_mul, Nat.add_comm, ← ha, List.drop_append, ha, List.drop_of_length_le (by omega), List.nil_append, show r.size + i * r.size - r.size = i * r.size by omega]
        exact h2 i (by simpa using hi)
  obtain ⟨h1, h2⟩ := key l hlen
  have hn : n = l.length := by
    have := h.1
    rw [h1] at this
    exact (Nat.eq_of_mul_eq_mul_right h0 this).symm
  exact slice_own h rfl hn fun i hi => by rw [h2 i hi]; exact hx _ (List.getElem_mem hi)
end
section
open Go.RowKit Go.ChangeShapes Go.WideShapes Go.Deep

/-- the fields from an offset on open into r -/
def OpensF {α : Type} (P : Program) (fs : List Field) (off : Nat) (r : Rep α) : Prop := ∀ (H : Type) (enc : TypeId × Value → H) (w : World) (fuel : Nat) (cs : List Value),
  off + r.size ≤ cs.length → (∀ (i : Nat) (f : Field), fs[i]? = some f → ∃ x, DataW.trod enc P w 0 (fun _ => true) true fuel f.type ((cs.drop f.offset).take (P.cellsOf f.type)) = some x) →
  ∃ a, r.at_ w (fun b => b < w.heap.size) ((cs.drop off).take r.size) a
theorem opensF_nil (P : Program) (off : Nat) : OpensF P [] off nilR := fun _ _ _ _ _ _ _ => ⟨(), by simp [nilR]⟩
theorem opensF_cons {α β : Type} {P : Program} {f : Field} {fs : List Field} {off : Nat} {r : Rep α} {s : Rep β} (ho : f.offset = off) (hc : P.cellsOf f.type = r.size) (h1 : Opens P f.type r) (h2 : OpensF P fs (off + r.size) s) : OpensF P (f :: fs) off (pairR r s) := by
  intro H enc w fuel cs hl hf
  have hlr : off + (r.size + s.size) ≤ cs.length := hl
  obtain ⟨x, hx⟩ := hf 0 f rfl
  obtain ⟨a, ha⟩ := h1 H enc w fuel _ _ hx
  obtain ⟨b, hb⟩ := h2 H enc w fuel cs (by omega) (fun i g hg => hf (i + 1) g (by simpa using hg))
  refine ⟨(a, b), _, _, ?_, ha, hb⟩
  rw [ho, hc]
  show List.take (r.size + s.size) (cs.drop off) = _
  rw [List.take_add, List.drop_drop]
theorem opens_struct {α : Type} {P : Program} {t : TypeId} {fs : Array Field} {r : Rep α} (ht : P.underlying t = some (.struct fs)) (hc : P.cellsOf t = r.size) (ho : OpensF P fs.toList 0 r) : Opens P t r := by
  intro H enc w fuel cs x hx
  obtain ⟨xs, n, _, _, hl, hlen, hf⟩ := DataW.trod_struct ht hx
  obtain ⟨a, ha⟩ := ho H enc w n cs (by omega) (fun i f hfi => by
    have hfi' : fs[i]? = some f := by simpa using hfi
    have h1 := hf i f hfi'
    have hi : i < xs.length := by rw [hlen]; exact (Array.getElem?_eq_some_iff.1 hfi').1
    exact ⟨xs[i], by rw [h1, List.getElem?_eq_getElem hi]⟩)
  refine ⟨a, ?_⟩
  rwa [List.drop_zero, List.take_of_length_le (by omega)] at ha
theorem opens_string {P : Program} {t : TypeId} (h : P.underlying t = some .string) : Opens P t strR := by
  intro H enc w fuel cs x hx
  obtain ⟨s, rfl, _, hs⟩ := DataW.trod_string h hx
  exact ⟨s, rfl, by simpa [maxLen] using hs⟩
theorem opens_map {α β : Type} {P : Program} {t : TypeId} {r : Rep α} {s : Rep β} (h : Opens P t r) (f : α → β) (hf : ∀ w S cs a, r.at_ w S cs a → s.at_ w S cs (f a)) : Opens P t s := by
  intro H enc w fuel cs x hx
  obtain ⟨a, ha⟩ := h H enc w fuel cs x hx
  exact ⟨f a, hf _ _ _ _ ha⟩
theorem okWide_struct {P : Program} {W : World} {r : Reach} {b : Nat} {t : TypeId} {fs : Array Field} {v : Value} (ht : P.underlying t = some (.struct fs)) (h : Value.okWide P W r b t v) : ∃ cs, v = .agg cs ∧ cs.size = P.cellsOf t := by
  simp only [Value.okWide, ht] at h
  obtain ⟨cs, h1, h2, _⟩ := h
  exact ⟨cs, h1, h2⟩
theorem pair_inv {α β : Type} {r : Rep α} {s : Rep β} {w : World} {S : Nat → Prop} {cs : List Value} {p : α × β} (h : (pairR r s).at_ w S cs p) : ∃ c1 c2, cs = c1 ++ c2 ∧ r.at_ w S c1 p.1 ∧ s.at_ w S c2 p.2 := h
/-- one cell is one cell -/
theorem one_inv {α : Type} {r : Rep α} {w : World} {S : Nat → Prop} {cs : List Value} {a : α} (hr : r.size = 1) (h : r.at_ w S cs a) : ∃ v, cs = [v] ∧ r.one w S v a := by
  have := r.len h
  rw [hr] at this
  match cs, this with
  | [v], _ => exact ⟨v, rfl, h⟩
end
section
open Go.RowKit

structure Gd where
  stage : Int
  event : Int
  cond : List Inst
structure Ml where
  name : ByteArray
  stage : Int
  event : Int
  cond : List Inst
  final : Bool
structure Ev where
  name : ByteArray
  role : Int
  stage : Int
  sets : List Int
  times : Int
structure Mod where
  attrs : List ByteArray
  inits : List Int
  users : List ByteArray
  roles : List (ByteArray × Int)
  stages : List (ByteArray × Int)
  events : List Ev
  guards : List Gd
  miles : List Ml
  sods : List (Int × Int)
  order : List (Bool × Int)
def strOk (s : ByteArray) : Prop := s.size ≤ 9223372036854775807
def nameIntR : Rep (ByteArray × Int) where
  size := 2
  at_ := fun _ _ cs x => cs = [.string x.1, .int .i64 x.2] ∧ strOk x.1 ∧ ok64 x.2
  len := fun h => by rw [h.1]; rfl
  keep := fun h _ => h
  mono := fun h _ => h
def intIntR : Rep (Int × Int) where
  size := 2
  at_ := fun _ _ cs x => cs = [.int .i64 x.1, .int .i64 x.2] ∧ ok64 x.1 ∧ ok64 x.2
  len := fun h => by rw [h.1]; rfl
  keep := fun h _ => h
  mono := fun h _ => h
def sentryR : Rep (Bool × Int) where
  size := 2
  at_ := fun _ _ cs x => cs = [.bool x.1, .int .i64 x.2] ∧ ok64 x.2
  len := fun h => by rw [h.1]; rfl
  keep := fun h _ => h
  mono := fun h _ => h
def gdR : Rep Gd where
  size := 3
  at_ := fun w S cs g => ∃ cv, cs = [.int .i64 g.stage, .int .i64 g.event, cv] ∧ (sliceR instR).one w S cv g.cond ∧ ok64 g.stage ∧ ok64 g.event
  len := fun ⟨_, h, _⟩ => by rw [h]; rfl
  keep := fun ⟨cv, h, h2, h3⟩ hk => ⟨cv, h, slice_keep h2 hk, h3⟩
  mono := fun ⟨cv, h, h2, h3⟩ hB => ⟨cv, h, slice_mono h2 hB, h3⟩
def mlR : Rep Ml where
  size := 5
  at_ := fun w S cs g => ∃ cv, cs = [.string g.name, .int .i64 g.stage, .int .i64 g.event, cv, .bool g.final] ∧ (sliceR instR).one w S cv g.cond ∧ ok64 g.stage ∧ ok64 g.event ∧ strOk g.name
  len := fun ⟨_, h, _⟩ => by rw [h]; rfl
  keep := fun ⟨cv, h, h2, h3⟩ hk => ⟨cv, h, slice_keep h2 hk, h3⟩
  mono := fun ⟨cv, h, h2, h3⟩ hB => ⟨cv, h, slice_mono h2 hB, h3⟩
def evR : Rep Ev where
  size := 5
  at_ := fun w S cs g => ∃ cv, cs = [.string g.name, .int .i64 g.role, .int .i64 g.stage, cv, .int .i64 g.times] ∧ (sliceR (intR .i64)).one w S cv g.sets ∧ ok64 g.role ∧ ok64 g.stage ∧ ok64 g.times ∧ strOk g.name
  len := fun ⟨_, h, _⟩ => by rw [h]; rfl
  keep := fun ⟨cv, h, h2, h3⟩ hk => ⟨cv, h, slice_keep h2 hk, h3⟩
  mono := fun ⟨cv, h, h2, h3⟩ hB => ⟨cv, h, slice_mono h2 hB, h3⟩

/-- a slice whose things lie anywhere in memory -/
def SI {α : Type} (r : Rep α) (w : World) (v : Value) (l : List α) : Prop := (sliceR r).one w (fun b => b < w.heap.size) v l
theorem SI.below {α : Type} {r : Rep α} {w w' : World} {v : Value} {l : List α} (h : SI r w v l) (hb : Below w.heap.size w w') : SI r w' v l := slice_mono (slice_below h hb fun b h => h) fun b h => Nat.lt_of_lt_of_le h hb.size
theorem SI.mk {α : Type} {r : Rep α} {w : World} {S : Nat → Prop} {v : Value} {l : List α} (h : (sliceR r).one w S v l) (hS : ∀ b, S b → b < w.heap.size) : SI r w v l := slice_mono h hS
theorem SI.form {α : Type} {r : Rep α} {w : World} {v : Value} {l : List α} (h : SI r w v l) : ∃ A c, v = .slice A l.length c ∧ l.length ≤ c ∧ c ≤ 9223372036854775807 := slice_form h
/-- the values of a model's ten lists -/
structure MV where
  attrs : Value
  inits : Value
  users : Value
  roles : Value
  stages : Value
  events : Value
  guards : Value
  miles : Value
  sods : Value
  order : Value
abbrev MV.cells (V : MV) : Array Value := #[V.attrs, V.inits, V.users, V.roles, V.stages, V.events, V.guards, V.miles, V.sods, V.order]
structure ModI (w : World) (V : MV) (m : Mod) : Prop where
  attrs : SI strR w V.attrs m.attrs
  inits : SI (intR .i64) w V.inits m.inits
  users : SI strR w V.users m.users
  roles : SI nameIntR w V.roles m.roles
  stages : SI nameIntR w V.stages m.stages
  events : SI evR w V.events m.events
  guards : SI gdR w V.guards m.guards
  miles : SI mlR w V.miles m.miles
  sods : SI intIntR w V.sods m.sods
  order : SI sentryR w V.order m.order
theorem ModI.below {w w' : World} {V : MV} {m : Mod} (h : ModI w V m) (hb : Below w.heap.size w w') : ModI w' V m :=
  ⟨h.attrs.below hb, h.inits.below hb, h.users.below hb, h.roles.below hb, h.stages.below hb, h.events.below hb, h.guards.below hb, h.miles.below hb, h.sods.below hb, h.order.below hb⟩
end
section
open Go.RowKit

theorem number_any (i : Int) (w : World) : Calls Try.prog 66 #[.int .i64 i] w fun e w' => e = .returned (.bool (decide (0 ≤ i) && decide (i < 31))) ∧ w = w' := by
  by_cases h : 0 ≤ i <;> (go_enter Try.func66, Try.ntmps66; go_wp2; go_ret; exact ⟨by congr 2; simp [h] <;> omega, rfl⟩)
theorem ret_bool {a b : Bool} (h : a = b) : Ending.returned (.bool a) = .returned (.bool b) := by rw [h]
theorem ret_i64 {a b : Int} (h : a = b) : Ending.returned (.int .i64 a) = .returned (.int .i64 b) := by rw [h]
theorem has_any (s i : Int) (w : World) : Calls Try.prog 69 #[.int .i64 s, .int .i64 i] w fun e w' => e = .returned (.bool (hasB s i)) ∧ w = w' := by
  by_cases h0 : 0 ≤ i
  · by_cases h1 : i < 31
    · have e0 : decide (0 ≤ i) = true := by simp; omega
      have e1 : decide (i < 31) = true := by simp; omega
      go_enter Try.func69, Try.ntmps69
      go_wp2_with (go_at_call 66; refine (number_any _ _).mono ?_; rintro e w' ⟨rfl, rfl⟩)
      go_ret
      exact ⟨ret_bool (by unfold hasB; rw [and_one_i64, e0, e1]; rfl), rfl⟩
    · have e0 : decide (0 ≤ i) = true := by simp; omega
      have e1 : decide (i < 31) = false := by simp; omega
      go_enter Try.func69, Try.ntmps69
      go_wp2_with (go_at_call 66; refine (number_any _ _).mono ?_; rintro e w' ⟨rfl, rfl⟩)
      go_ret
      exact ⟨ret_bool (by unfold hasB; rw [e0, e1]; rfl), rfl⟩
  · have e0 : decide (0 ≤ i) = false := by simp; omega
    go_enter Try.func69, Try.ntmps69
    go_wp2_with (go_at_call 66; refine (number_any _ _).mono ?_; rintro e w' ⟨rfl, rfl⟩)
    go_ret
    exact ⟨ret_bool (by unfold hasB; rw [e0]; rfl), rfl⟩

theorem isNaN_any (a : Int) (w : World) : Calls Try.prog 87 #[.int .i64 a] w fun e w' => e = .returned (.bool false) ∧ w = w' := by
  go_enter Try.func87, Try.ntmps87
  go_wp2
  go_ret
  exact ⟨ret_bool (by simp), rfl⟩
theorem cmp_any (a b : Int) (w : World) : Calls Try.prog 76 #[.int .i64 a, .int .i64 b] w fun e w' => e = .returned (.int .i64 (cmpI a b)) ∧ w = w' := by
  by_cases h1 : a < b
  · go_enter Try.func76, Try.ntmps76
    go_wp2_with (go_at_call 87; refine (isNaN_any _ _).mono ?_; rintro e w' ⟨rfl, rfl⟩)
    go_ret
    exact ⟨ret_i64 (by unfold cmpI; (repeat' split) <;> omega), rfl⟩
  · by_cases h2 : b < a
    · go_enter Try.func76, Try.ntmps76
      go_wp2_with (go_at_call 87; refine (isNaN_any _ _).mono ?_; rintro e w' ⟨rfl, rfl⟩)
      go_ret
      exact ⟨ret_i64 (by unfold cmpI; (repeat' split) <;> omega), rfl⟩
    · go_enter Try.func76, Try.ntmps76
      go_wp2_with (go_at_call 87; refine (isNaN_any _ _).mono ?_; rintro e w' ⟨rfl, rfl⟩)
      go_ret
      exact ⟨ret_i64 (by unfold cmpI; (repeat' split) <;> omega), rfl⟩

theorem so_any (op c : Int) (w : World) : Calls Try.prog 92 #[.int .i64 op, .int .i64 c] w fun e w' => e = .returned (.bool (soB op c)) ∧ w = w' := by
  have key : (op = 3 ∨ op = 4 ∨ op = 5 ∨ op = 6 ∨ op = 7 ∨ op = 8) ∨ ((op == 3) = false ∧ (op == 4) = false ∧ (op == 5) = false ∧ (op == 6) = false ∧ (op == 7) = false ∧ (op == 8) = false) := by
    simp; omega
  rcases key with (rfl | rfl | rfl | rfl | rfl | rfl) | ⟨h3, h4, h5, h6, h7, h8⟩
  all_goals
    go_enter Try.func92, Try.ntmps92
    go_wp2
    go_ret
    refine ⟨ret_bool ?_, rfl⟩
    first | rfl | (simp at h3 h4 h5 h6 h7 h8; simp [soB, *])
theorem arity_any (op : Int) (w : World) : Calls Try.prog 94 #[.int .i64 op] w fun e w' => e = .returned (.int .i64 (arity op)) ∧ w = w' := by
  have key : (1 ≤ op ∧ op ≤ 14) ∨ op = 15 ∨ (19 ≤ op ∧ op ≤ 24) ∨ (16 ≤ op ∧ op ≤ 18) ∨ op = 25 ∨ op = 26 ∨ op < 1 ∨ 26 < op := by omega
  rcases key with ⟨h1, h2⟩ | rfl | ⟨h1, h2⟩ | ⟨h1, h2⟩ | rfl | rfl | h1 | h1
  all_goals
    go_enter Try.func94, Try.ntmps94
    go_wp2
    all_goals go_ret
    all_goals refine ⟨ret_i64 ?_, rfl⟩
    all_goals (unfold arity; (repeat' split) <;> first | rfl | omega)
end
section
open Go.RowKit

/-- a set's lowest 31 bits -/
def low (s : Int) : Nat := (s % 2147483648).toNat
theorem low_lt (s : Int) : low s < 2 ^ 31 := by unfold low; omega
theorem low_of (n : Nat) (h : n < 2 ^ 31) : low (n : Int) = n := by unfold low; omega
def withB (s i : Int) : Int := if 0 ≤ i ∧ i < 31 then ((low s ||| 2 ^ i.toNat : Nat) : Int) else (low s : Int)
def withoutB (s i : Int) : Int := if 0 ≤ i ∧ i < 31 then ((low s ^^^ (low s &&& 2 ^ i.toNat) : Nat) : Int) else (low s : Int)
theorem hasB_low (s : Int) (j : Nat) (hj : j < 31) : hasB s (j : Int) = (low s).testBit j := by
  have h1 : hasB s (j : Int) = (s / 2 ^ j % 2 == 1) := by
    unfold hasB
    rw [show decide (0 ≤ (j : Int)) = true by simp, show decide ((j : Int) < 31) = true by simp; omega]
    rfl
  rw [h1, Nat.testBit_eq_decide_div_mod_eq]
  have hs : s = 2 ^ j * (2 ^ (30 - j) * 2 * (s / 2147483648)) + s % 2147483648 := by
    have e : (2 : Int) ^ j * (2 ^ (30 - j) * 2 * (s / 2147483648)) = (2 ^ j * 2 ^ (30 - j) * 2) * (s / 2147483648) := by
      rw [← Int.mul_assoc, ← Int.mul_assoc]
    rw [e, ← Int.pow_add, show j + (30 - j) = 30 by omega]
    have := Int.mul_ediv_add_emod s 2147483648
    omega
  have h2 : s / 2 ^ j % 2 = ((low s / 2 ^ j % 2 : Nat) : Int) := by
    have hr : ((low s : Nat) : Int) = s % 2147483648 := by unfold low; omega
    rw [Int.natCast_emod, Int.natCast_ediv, hr]
    have hp : ((2 ^ j : Nat) : Int) = 2 ^ j := by simp
    rw [hp]
    conv => lhs; rw [hs]
    rw [Int.add_comm, Int.add_mul_ediv_left _ _ (by have : (0 : Int) < 2 ^ j := Int.pow_pos (by omega); omega)]
    rw [show (2 : Int) ^ (30 - j) * 2 * (s / 2147483648) = 2 * (2 ^ (30 - j) * (s / 2147483648)) by rw [Int.mul_comm ((2 : Int) ^ (30 - j)) 2, Int.mul_assoc]]
    omega
  rw [h2]
  generalize low s / 2 ^ j % 2 = n
  rw [Bool.eq_iff_iff]
  simp
  omega
theorem hasB_out (s j : Int) (hj : ¬ (0 ≤ j ∧ j < 31)) : hasB s j = false := by
  unfold hasB
  by_cases h : 0 ≤ j
  · rw [show decide (j < 31) = false by simp; omega]; simp
  · rw [show decide (0 ≤ j) = false by simp; omega]; rfl
theorem hasB_with (s i j : Int) : hasB (withB s i) j = ((decide (0 ≤ i ∧ i < 31) && (j == i)) || hasB s j) := by
  by_cases hj : 0 ≤ j ∧ j < 31
  · obtain ⟨n, rfl⟩ : ∃ n : Nat, j = (n : Int) := ⟨j.toNat, by omega⟩
    unfold withB
    by_cases hi : 0 ≤ i ∧ i < 31
    · obtain ⟨k, rfl⟩ : ∃ k : Nat, i = (k : Int) := ⟨i.toNat, by omega⟩
      have hl : low s ||| 2 ^ k < 2 ^ 31 := Nat.or_lt_two_pow (low_lt s) (Nat.pow_lt_pow_right (by omega) (by omega))
      rw [if_pos hi, Int.toNat_natCast, hasB_low _ _ (by omega), low_of _ hl, Nat.testBit_or, hasB_low _ _ (by omega), Nat.testBit_two_pow, Bool.or_comm]
      congr 1
      rw [Bool.eq_iff_iff]
      simp
      omega
    · rw [if_neg hi, hasB_low _ _ (by omega), low_of _ (low_lt s), hasB_low _ _ (by omega)]
      simp [hi]
  · rw [hasB_out _ _ hj, hasB_out _ _ hj, Bool.or_false]
    symm
    rw [Bool.and_eq_false_iff]
    by_cases hi : 0 ≤ i ∧ i < 31
    · right
      exact beq_eq_false_iff_ne.2 (by omega)
    · left; simpa using hi
theorem hasB_without (s i j : Int) : hasB (withoutB s i) j = (!(j == i) && hasB s j) := by
  by_cases hj : 0 ≤ j ∧ j < 31
  · obtain ⟨n, rfl⟩ : ∃ n : Nat, j = (n : Int) := ⟨j.toNat, by omega⟩
    unfold withoutB
    by_cases hi : 0 ≤ i ∧ i < 31
    · obtain ⟨k, rfl⟩ : ∃ k : Nat, i = (k : Int) := ⟨i.toNat, by omega⟩
      have hl : low s ^^^ (low s &&& 2 ^ k) < 2 ^ 31 := Nat.xor_lt_two_pow (low_lt s) (Nat.lt_of_le_of_lt Nat.and_le_left (low_lt s))
      rw [if_pos hi, Int.toNat_natCast, hasB_low _ _ (by omega), low_of _ hl, Nat.testBit_xor, Nat.testBit_and, Nat.testBit_two_pow, hasB_low _ _ (by omega)]
      by_cases e : n = k
      · subst e; cases (low s).testBit n <;> simp
      · rw [show ((n : Int) == (k : Int)) = false from beq_eq_false_iff_ne.2 (by omega), show decide (k = n) = false by simp; omega]; simp
    · rw [if_neg hi, hasB_low _ _ (by omega), low_of _ (low_lt s), hasB_low _ _ (by omega), show ((n : Int) == i) = false from beq_eq_false_iff_ne.2 (by omega)]; rfl
  · rw [hasB_out _ _ hj, hasB_out _ _ hj, Bool.and_false]

theorem ofInt_nat64 (a : Nat) (ha : a < 2 ^ 64) : (BitVec.ofInt 64 (a : Int)).toNat = a := by
  rw [BitVec.ofInt_natCast, BitVec.toNat_ofNat]; exact Nat.mod_eq_of_lt ha
theorem wrap_nat (n : Nat) (h : n < 2 ^ 63) : IntKind.i64.wrap (n : Int) = (n : Int) := by
  simp [IntKind.wrap, IntKind.bits, IntKind.signed]
  omega
theorem and_all (s : Int) : bits .and .i64 s 2147483647 = (low s : Int) := by
  show IntKind.i64.wrap ((BitVec.ofInt 64 s &&& BitVec.ofInt 64 2147483647).toNat : Int) = _
  have h : (BitVec.ofInt 64 s &&& BitVec.ofInt 64 2147483647).toNat = low s := by
    rw [BitVec.toNat_and, show (BitVec.ofInt 64 2147483647).toNat = 2 ^ 31 - 1 from rfl, Nat.and_two_pow_sub_one_eq_mod, BitVec.toNat_ofInt]
    unfold low
    omega
  rw [h]
  exact wrap_nat _ (Nat.lt_trans (low_lt s) (by decide))
theorem or_nat (a b : Nat) (ha : a < 2 ^ 62) (hb : b < 2 ^ 62) : bits .or .i64 (a : Int) (b : Int) = ((a ||| b : Nat) : Int) := by
  show IntKind.i64.wrap ((BitVec.ofInt 64 (a : Int) ||| BitVec.ofInt 64 (b : Int)).toNat : Int) = _
  rw [BitVec.toNat_or, ofInt_nat64 a (by omega), ofInt_nat64 b (by omega)]
  exact wrap_nat _ (Nat.lt_trans (Nat.or_lt_two_pow ha hb) (by decide))
theorem andNot_nat (a b : Nat) (ha : a < 2 ^ 62) (hb : b < 2 ^ 62) : bits .andNot .i64 (a : Int) (b : Int) = ((a ^^^ (a &&& b) : Nat) : Int) := by
  show IntKind.i64.wrap ((BitVec.ofInt 64 (a : Int) &&& ~~~ BitVec.ofInt 64 (b : Int)).toNat : Int) = _
  have h : (BitVec.ofInt 64 (a : Int) &&& ~~~ BitVec.ofInt 64 (b : Int)).toNat = a ^^^ (a &&& b) := by
    apply Nat.eq_of_testBit_eq
    intro i
    rw [BitVec.toNat_and, Nat.testBit_and, ofInt_nat64 a (by omega), BitVec.testBit_toNat, BitVec.getLsbD_not, Nat.testBit_xor, Nat.testBit_and, ← BitVec.testBit_toNat, ofInt_nat64 b (by omega)]
    by_cases hi : i < 64
    · simp [hi]; cases a.testBit i <;> cases b.testBit i <;> rfl
    · have : a.testBit i = false := Nat.testBit_lt_two_pow (Nat.lt_of_lt_of_le ha (Nat.pow_le_pow_right (by omega) (by omega)))
      simp [this]
  rw [h]
  exact wrap_nat _ (Nat.lt_trans (Nat.xor_lt_two_pow ha (Nat.lt_of_le_of_lt Nat.and_le_left ha)) (by decide))
theorem pow_wrap (i : Int) (h0 : 0 ≤ i) (h1 : i < 31) : wrap64 (2 ^ i.toNat) = ((2 ^ i.toNat : Nat) : Int) := by
  have h2 : (2 : Nat) ^ i.toNat < 2 ^ 31 := Nat.pow_lt_pow_right (by omega) (by omega)
  have e : (2 : Int) ^ i.toNat = ((2 ^ i.toNat : Nat) : Int) := by simp
  rw [e]
  clear e
  generalize (2 : Nat) ^ i.toNat = n at *
  exact IntWalk.wrap64_in _ ⟨by omega, by omega⟩

theorem with_any (s i : Int) (w : World) : Calls Try.prog 49 #[.int .i64 s, .int .i64 i] w fun e w' => e = .returned (.int .i64 (withB s i)) ∧ w = w' := by
  unfold withB
  by_cases h0 : 0 ≤ i
  · by_cases h1 : i < 31
    · have e0 : decide (0 ≤ i) = true := by simp; omega
      have e1 : decide (i < 31) = true := by simp; omega
      rw [if_pos ⟨h0, h1⟩]
      go_enter Try.func49, Try.ntmps49
      go_wp2_with (go_at_call 66; refine (number_any _ _).mono ?_; rintro e w' ⟨rfl, rfl⟩)
      go_ret
      exact ⟨ret_i64 (by rw [and_all, pow_wrap i h0 h1, or_nat _ _ (Nat.lt_trans (low_lt s) (by decide)) (Nat.pow_lt_pow_right (by omega) (by omega))]), rfl⟩
    · have e0 : decide (0 ≤ i) = true := by simp; omega
      have e1 : decide (i < 31) = false := by simp; omega
      rw [if_neg (by omega)]
      go_enter Try.func49, Try.ntmps49
      go_wp2_with (go_at_call 66; refine (number_any _ _).mono ?_; rintro e w' ⟨rfl, rfl⟩)
      go_ret
      exact ⟨ret_i64 (and_all s), rfl⟩
  · have e0 : decide (0 ≤ i) = false := by simp; omega
    rw [if_neg (by omega)]
    go_enter Try.func49, Try.ntmps49
    go_wp2_with (go_at_call 66; refine (number_any _ _).mono ?_; rintro e w' ⟨rfl, rfl⟩)
    go_ret
    exact ⟨ret_i64 (and_all s), rfl⟩
theorem without_any (s i : Int) (w : World) : Calls Try.prog 65 #[.int .i64 s, .int .i64 i] w fun e w' => e = .returned (.int .i64 (withoutB s i)) ∧ w = w' := by
  unfold withoutB
  by_cases h0 : 0 ≤ i
  · by_cases h1 : i < 31
    · have e0 : decide (0 ≤ i) = true := by simp; omega
      have e1 : decide (i < 31) = true := by simp; omega
      rw [if_pos ⟨h0, h1⟩]
      go_enter Try.func65, Try.ntmps65
      go_wp2_with (go_at_call 66; refine (number_any _ _).mono ?_; rintro e w' ⟨rfl, rfl⟩)
      go_ret
      exact ⟨ret_i64 (by rw [and_all, pow_wrap i h0 h1, andNot_nat _ _ (Nat.lt_trans (low_lt s) (by decide)) (Nat.pow_lt_pow_right (by omega) (by omega))]), rfl⟩
    · have e0 : decide (0 ≤ i) = true := by simp; omega
      have e1 : decide (i < 31) = false := by simp; omega
      rw [if_neg (by omega)]
      go_enter Try.func65, Try.ntmps65
      go_wp2_with (go_at_call 66; refine (number_any _ _).mono ?_; rintro e w' ⟨rfl, rfl⟩)
      go_ret
      exact ⟨ret_i64 (and_all s), rfl⟩
  · have e0 : decide (0 ≤ i) = false := by simp; omega
    rw [if_neg (by omega)]
    go_enter Try.func65, Try.ntmps65
    go_wp2_with (go_at_call 66; refine (number_any _ _).mono ?_; rintro e w' ⟨rfl, rfl⟩)
    go_ret
    exact ⟨ret_i64 (and_all s), rfl⟩
end
end Go.Proofs.Ytcindbpnaicemaa
