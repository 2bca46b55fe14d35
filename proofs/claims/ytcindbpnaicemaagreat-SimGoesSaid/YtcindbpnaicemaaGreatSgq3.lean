/-
  Parts of the proof: Sgp5, Sgp6.
-/
import Derived.Test.YtcindbpnaicemaaGreatSgq2
import Derived.RangeFuncLeaves
import Derived.RangeFuncRecord
import Derived.Test.YtcindbpnaicemaaGreatProg
import Derived.Laws.StructEq
import Derived.WalkKit
import Derived.WalkLawsBesides
import Derived.ProofKit
import Derived.OpenShut
import Derived.Deep.Slices
import Derived.BigQuiet
import Derived.Deep.QuietTactic
import Derived.Test.YtcindbpnaicemaaGreatRows
import Derived.SizedLaws
import Derived.WalkSpells
import Derived.ScopeJumps
import Derived.WalkMore
import Derived.Handy
import Derived.Deep.DeepCutAuto
import Derived.Deep.CutBlock
import Derived.Deep.AppendLies
import Derived.Deep.RegionLaw
import Derived.IntWalk
set_option linter.unusedVariables false
set_option linter.unusedSimpArgs false
set_option linter.defProp false
set_option maxRecDepth 100000
set_option maxHeartbeats 16000000
namespace Go.Proofs.YtcindbpnaicemaaGreat
section
section
open Go.RowKit
def aTabs (st:ASt) (ren:List Nat):ATab → Prop
 | []=>True
 | (k,o) :: T=>(k<ren.length ∧ (∃ e sz rows,o=some (.row e sz rows)) ∧ st.tab.get (ren.getD k 0)=o) ∧ aTabs st ren T
def aGives (R:Res) (st:ASt) (av:AV):Prop:=∃ ren:List Nat,ren.Nodup ∧ R.r.ren ren=av ∧ aTabs st ren R.tab
def aResL (P:Program) (st:ASt):List ResultVar → (List AV → Prop) → Prop
 | [],K=>K []
 | .tmp t :: l,K=>aResL P st l fun avs=>K (st.get t :: avs)
 | .cell p ty :: l,K=>aLoad P ty st.tab (st.get p) fun av=>aResL P st l fun avs=>K (av :: avs)
def aOne:List AV → AV
 | [x]=>x
 | l=>.tup l
def aRetR (P:Program) (rs:List ResultVar) (Post:Res → Prop):Exit → ASt → Prop
 | .normal,st=>aResL P st rs fun avs=>∃ R,Post R ∧ R.Ok ∧ aGives R st (aOne avs)
 | .ret,st=>aResL P st rs fun avs=>∃ R,Post R ∧ R.Ok ∧ aGives R st (aOne avs)
 | _,_=>False
def aRet (P:Program) (rs:List ResultVar) (R:Res):Exit → ASt → Prop
 | .normal,st=>aResL P st rs fun avs=>aGives R st (aOne avs)
 | .ret,st=>aResL P st rs fun avs=>aGives R st (aOne avs)
 | _,_=>False
theorem aRet_r {P:Program} {rs:List ResultVar} {R:Res} {st:ASt}:aRet P rs R .ret st=aResL P st rs fun avs=>aGives R st (aOne avs):=rfl
theorem aRetR_r {P:Program} {rs:List ResultVar} {Post:Res → Prop} {st:ASt}:aRetR P rs Post .ret st=aResL P st rs fun avs=>∃ R,Post R ∧ R.Ok ∧ aGives R st (aOne avs):=rfl
def aRetH (P:Program) (rs:List ResultVar) (t:TypeId) (n:Nat) (Post:AV → List AV → List AObj → Prop):Exit → ASt → Prop
 | .normal,st=>aResL P st rs fun avs=>∃ cells' objs',Post (aOne avs) cells' objs' ∧ roA (aOne avs) ∧ (cells'.length=n ∧ AV.ltL (objs'.length+1) cells' ∧ ∀ o ∈ objs',plainO o) ∧ Weak st ⟨st.n,[(0,.op 0 0 0)],tabN 0 (.box t cells' :: objs'),objs'.length+1⟩
 | .ret,st=>aResL P st rs fun avs=>∃ cells' objs',Post (aOne avs) cells' objs' ∧ roA (aOne avs) ∧ (cells'.length=n ∧ AV.ltL (objs'.length+1) cells' ∧ ∀ o ∈ objs',plainO o) ∧ Weak st ⟨st.n,[(0,.op 0 0 0)],tabN 0 (.box t cells' :: objs'),objs'.length+1⟩
 | _,_=>False
theorem aRetH_r {P:Program} {rs:List ResultVar} {t:TypeId} {n:Nat} {Post:AV → List AV → List AObj → Prop} {st:ASt}:aRetH P rs t n Post .ret st=aResL P st rs fun avs=>∃ cells' objs',Post (aOne avs) cells' objs' ∧ roA (aOne avs) ∧ (cells'.length=n ∧ AV.ltL (objs'.length+1) cells' ∧ ∀ o ∈ objs',plainO o) ∧ Weak st ⟨st.n,[(0,.op 0 0 0)],tabN 0 (.box t cells' :: objs'),objs'.length+1⟩:=rfl
def aRetHA (P:Program) (rs:List ResultVar) (t:TypeId) (n r:Nat) (av0:AV) (Post:AV → List AV → List AObj → Prop):Exit → ASt → Prop
 | .normal,st=>aResL P st rs fun avs=>∃ cells' objs',Post (aOne avs) cells' objs' ∧ roA (aOne avs) ∧ (cells'.length=n ∧ AV.ltL (objs'.length+1) cells' ∧ ∀ o ∈ objs',plainO o) ∧ Weak st ⟨st.n,[(r,av0)],tabN 0 (.box t cells' :: objs'),objs'.length+1⟩
 | .ret,st=>aResL P st rs fun avs=>∃ cells' objs',Post (aOne avs) cells' objs' ∧ roA (aOne avs) ∧ (cells'.length=n ∧ AV.ltL (objs'.length+1) cells' ∧ ∀ o ∈ objs',plainO o) ∧ Weak st ⟨st.n,[(r,av0)],tabN 0 (.box t cells' :: objs'),objs'.length+1⟩
 | _,_=>False
theorem aRetHA_r {P:Program} {rs:List ResultVar} {t:TypeId} {n r:Nat} {av0:AV} {Post:AV → List AV → List AObj → Prop} {st:ASt}:aRetHA P rs t n r av0 Post .ret st=aResL P st rs fun avs=>∃ cells' objs',Post (aOne avs) cells' objs' ∧ roA (aOne avs) ∧ (cells'.length=n ∧ AV.ltL (objs'.length+1) cells' ∧ ∀ o ∈ objs',plainO o) ∧ Weak st ⟨st.n,[(r,av0)],tabN 0 (.box t cells' :: objs'),objs'.length+1⟩:=rfl
def envOf:Nat → List AV → List (Nat × AV)
 | _,[]=>[]
 | k,a :: l=>(k,a) :: envOf (k+1) l
theorem aget_envOf:∀ (l:List AV) (k t:Nat),aget (envOf k l) t=if k≤t then l.getD (t - k) .any else .any
 | [],k,t=>by simp [envOf,aget]
 | a :: l,k,t=>by
  simp only [envOf,aget]
  rw [aget_envOf l (k+1) t]
  by_cases h:t=k
  ·subst h
   simp
  ·rw [if_neg h]
   by_cases h2:k≤t
   ·rw [if_pos (by omega),if_pos h2,show t - k=(t - (k+1))+1 by omega]
    simp
   ·rw [if_neg (by omega),if_neg h2]
section
variable {P:Program} {cx:Cx} {a:Act} {w w':World} {tab:ATab} {st:ASt} {L:Nat → Value} {nx:Nat}
theorem tabs_get {ren:List Nat}:∀ {T:ATab} {k:Nat} {o:AObj},aTabs st ren T → T.get k=some o → k<ren.length ∧ (∃ e sz rows,o=.row e sz rows) ∧ st.tab.get (ren.getD k 0)=some o
 | [],k,o,_,h=>by cases h
 | (j,oo) :: T,k,o,hp,h=>by
  rw [ATab.get_cons] at h
  split at h
  ·rename_i e
   subst e
   subst h
   obtain ⟨h1,⟨e,sz,rows,h2⟩,h3⟩:=hp.1
   cases h2
   exact ⟨h1,⟨e,sz,rows,rfl⟩,h3⟩
  ·exact tabs_get hp.2 h
theorem asAddr_of_load {t:TypeId} {v u:Value} (h:(Instr.loadAt t v).run P w=.ok u w):(do loadVar t (← asAddr v):Sem Value).run P w=.ok u w:=by
 cases v with
 | pointer p=>
  cases p with
  | none=>simp [Instr.loadAt,Instr.sureAddr,Sem.run_bind] at h
  | some ad=>simpa [Instr.loadAt,Instr.sureAddr,asAddr,Sem.run_bind] using h
 | _=>simp [Instr.loadAt,Instr.sureAddr,Sem.run_bind] at h
def resVar (tmps:Array Value):ResultVar → Sem Value
 | .tmp t=>pure (tmps.getD t undef)
 | .cell p t=>do loadVar t (← asAddr (tmps.getD p undef))
theorem results_eq (fn:Func) (tmps:Array Value):results fn tmps=(do
  let vs ← fn.results.mapM (resVar tmps)
  pure (if h:vs.size=1 then vs[0] else .tuple vs)):=by
 unfold results
 congr 1
theorem resL_ok (h:Conc cx a w st L):∀ (l:List ResultVar) (K:List AV → Prop),aResL P st l K →
  ∃ vs avs,K avs ∧ vs.length=avs.length ∧ (∀ (j:Nat) (v:Value) (av:AV),vs[j]? = some v → avs[j]? = some av → RVx cx w st.tab L v av) ∧
   (l.mapM (resVar a.tmps):Sem (List Value)).run P w=.ok vs w
 | [],K,hp=>⟨[],[],hp,rfl,by simp,by simp⟩
 | .tmp t :: l,K,hp=>by
  obtain ⟨vs,avs,h1,h2,h3,h4⟩:=resL_ok h l _ hp
  refine ⟨a.tmps.getD t undef :: vs,st.get t :: avs,h1,by simp [h2],fun j v av h5 h6=>?_,?_⟩
  ·cases j with
   | zero=>
    cases h5
    cases h6
    exact (h.env t).1
   | succ j=>exact h3 j v av (by simpa using h5) (by simpa using h6)
  ·simp only [List.mapM_cons,resVar,Sem.run_bind,Sem.run_pure,Result.andThen_ok,h4]
 | .cell p ty :: l,K,hp=>by
  obtain ⟨u,au,h1,h2,h3,h4⟩:=(load_ok (nx:=st.next) h.lay (fun id o hid=>(h.young id o hid).2) (h.env p).1 hp).one
  obtain ⟨vs,avs,h5,h6,h7,h8⟩:=resL_ok h l _ h1
  refine ⟨u :: vs,au :: avs,h5,by simp [h6],fun j v av h9 h10=>?_,?_⟩
  ·cases j with
   | zero=>
    cases h9
    cases h10
    exact h2
   | succ j=>exact h7 j v av (by simpa using h9) (by simpa using h10)
  ·have:=asAddr_of_load (h4 w (Below.refl _ _))
   simp only [List.mapM_cons,resVar]
   rw [Sem.run_bind,this]
   simp only [Sem.run_bind,Sem.run_pure,Result.andThen_ok,h8]
theorem res_ok {fn:Func} {K:AV → Prop} (h:Conc cx a w st L) (hp:aResL P st fn.results.toList fun avs=>K (aOne avs)):∃ v av,K av ∧ RVx cx w st.tab L v av ∧ (results fn a.tmps).run P w=.ok v w:=by
 obtain ⟨vs,avs,h1,h2,h3,h4⟩:=resL_ok h _ _ hp
 have hm:(results fn a.tmps).run P w=.ok (if h:vs.toArray.size=1 then vs.toArray[0] else .tuple vs.toArray) w:=by
  rw [results_eq,Sem.run_bind,Array.mapM_eq_mapM_toList]
  simp only [bind_pure_comp,Sem.run_map,h4]
  rfl
 refine ⟨_,aOne avs,h1,?_,hm⟩
 clear hm h4 h1
 match vs,avs,h2,h3 with
 | [v],[av],_,h3=>exact h3 0 v av rfl rfl
 | [],[],_,h3=>exact .tup _ _ rfl (by simp)
 | v :: v' :: vs,av :: av' :: avs,h2,h3=>
  simp only [aOne,List.size_toArray,List.length_cons]
  rw [dif_neg (by omega)]
  exact .tup _ _ (by simpa using h2) fun j x av h4 h5=>h3 j x av (by simpa using h4) h5
end
structure KeepM (base:Nat) (w w':World):Prop where
 below:Below base w w'
 size:w'.heap.size=w.heap.size
 cell:∀ p,w'.cell? p=w.cell? p
 cells:∀ (k:Nat) cs t x,w.heap[k]? = some (Obj.cells cs t x) → w'.heap[k]? = some (Obj.cells cs t x)
 maps:∀ (k:Nat) es c,w.heap[k]? = some (Obj.map es c) → w'.heap[k]? = some (Obj.map es c)
theorem KeepM.refl (base:Nat) (w:World):KeepM base w w:=⟨Below.refl _ _,rfl,fun _=>rfl,fun _ _ _ _ h=>h,fun _ _ _ h=>h⟩
theorem KeepM.trans {base:Nat} {w w' w'':World} (h:KeepM base w w') (k:KeepM base w' w''):KeepM base w w'':=
 ⟨h.below.trans k.below,k.size.trans h.size,fun p=>(k.cell p).trans (h.cell p),fun b cs t x hb=>k.cells b cs t x (h.cells b cs t x hb),fun b es c hb=>k.maps b es c (h.maps b es c hb)⟩
theorem KeepM.put {base k:Nat} {w:World} {o:Option (List Deferred)} (hk:base≤k) (h:w.heap[k]? = some (.deferred o)) (o':Option (List Deferred)):KeepM base w (w.putObj k (.deferred o')):=by
 have hother:∀ j,j ≠ k → (w.putObj k (.deferred o')).heap[j]? = w.heap[j]?:=fun j hj=>World.putObj_heap_other hj
 have hlt:k<w.heap.size:=(Array.getElem?_eq_some_iff.1 h).1
 refine ⟨⟨rfl,rfl,rfl,by simp,fun j hj=>hother j (by omega)⟩,by simp,fun p=>?_,fun j cs t x hj=>?_,fun j es c hj=>?_⟩
 ·by_cases e:p.block=k
  ·have h1:(w.putObj k (.deferred o')).heap[p.block]? = some (.deferred o'):=by rw [e];exact World.putObj_heap_same hlt
   have h2:w.heap[p.block]? = some (.deferred o):=by rw [e];exact h
   unfold World.cell?
   rw [h1,h2]
  ·exact World.cell?_of_block (hother p.block e)
 ·by_cases e:j=k
  ·rw [e,h] at hj
   cases hj
  ·rw [hother j e]
   exact hj
 ·by_cases e:j=k
  ·rw [e,h] at hj
   cases hj
  ·rw [hother j e]
   exact hj
theorem KeepM.turn {base k:Nat} {w:World} {o:Loop} (hk:base≤k) (h:w.heap[k]? = some (.loop o)) (o':Loop):KeepM base w (w.putObj k (.loop o')):=by
 have hother:∀ j,j ≠ k → (w.putObj k (.loop o')).heap[j]? = w.heap[j]?:=fun j hj=>World.putObj_heap_other hj
 have hlt:k<w.heap.size:=(Array.getElem?_eq_some_iff.1 h).1
 refine ⟨⟨rfl,rfl,rfl,by simp,fun j hj=>hother j (by omega)⟩,by simp,fun p=>?_,fun j cs t x hj=>?_,fun j es c hj=>?_⟩
 ·by_cases e:p.block=k
  ·have h1:(w.putObj k (.loop o')).heap[p.block]? = some (.loop o'):=by rw [e];exact World.putObj_heap_same hlt
   have h2:w.heap[p.block]? = some (.loop o):=by rw [e];exact h
   unfold World.cell?
   rw [h1,h2]
  ·exact World.cell?_of_block (hother p.block e)
 ·by_cases e:j=k
  ·rw [e,h] at hj
   cases hj
  ·rw [hother j e]
   exact hj
 ·by_cases e:j=k
  ·rw [e,h] at hj
   cases hj
  ·rw [hother j e]
   exact hj
section
variable {cx:Cx} {a:Act} {w w':World} {st:ASt} {L:Nat → Value}
theorem conc_keep (h:Conc cx a w st L) (hk:KeepM cx.w0.heap.size w w') {ds:List Deferred} (hm:Marks cx.w0.heap.size w' (Sx cx w' st.tab L) ds):Conc cx { a with defers:=ds } w' st L:=by
 have hS:∀ b,Sx cx w st.tab L b → Sx cx w' st.tab L b:=fun b hb=>⟨by rw [hk.size];exact hb.1,hb.2.1,hb.2.2⟩
 have hrv:∀ {x av nx},RVx cx w st.tab L x av → av.lt nx → RVx cx w' st.tab L x av:=fun hr hl=>hr.mono hl (fun p _=>hk.cell p) hS (fun _ _ _ h=>h)
 refine ⟨⟨h.lay.below.trans (belowX hk.below),fun id o hid=>?_,h.lay.sep,fun b hb=>⟨by rw [hk.size];exact (h.lay.ex b hb).1,(h.lay.ex b hb).2⟩⟩,h.size,hm,h.young,fun t=>⟨hrv (h.env t).1 (h.env t).2,(h.env t).2⟩⟩
 have ho:=h.lay.objs id o hid
 have hy:=(h.young id o hid).2
 cases o with
 | box t cells=>
  obtain ⟨g,cs,h1,h2,h3,h4,h5⟩:=ho
  exact ⟨g,cs,h1,h2,hk.cells _ _ _ _ h3,h4,fun j x av h6 h7=>⟨hrv (h5 j x av h6 h7).1 (ltL_iff.1 hy _ (List.mem_of_getElem? h7)),(h5 j x av h6 h7).2⟩⟩
 | row e sz rows=>
  obtain ⟨h1,xs,hown,h2,h3⟩:=ho
  refine ⟨h1,xs,⟨hown.1,?_⟩,h2,fun i j row av ha hb=>?_⟩
  ·rcases hown.2 with hn | ⟨g,cap,cur,h4,hb,hh,rest⟩
   ·exact .inl hn
   ·exact .inr ⟨g,cap,cur,h4,hb,hk.cells _ _ _ _ hh,rest⟩
  ·obtain ⟨x,hx,hr⟩:=h3 i j row av ha hb
   exact ⟨x,hx,hr.mono (fun p _=>hk.cell p) hS⟩
 | map ents=>
  obtain ⟨b,es,ck,h1,h2,h3,h4⟩:=ho
  exact ⟨b,es,ck,h1,h2,hk.maps _ _ _ h3,h4⟩
 | nest e sz rows=>
  obtain ⟨h1,xs,hown,h2,h3⟩:=ho
  refine ⟨h1,xs,⟨hown.1,?_⟩,h2,fun i j row av ha hb=>?_⟩
  ·rcases hown.2 with hn | ⟨g,cap,cur,h4,hb,hh,rest⟩
   ·exact .inl hn
   ·exact .inr ⟨g,cap,cur,h4,hb,hk.cells _ _ _ _ hh,rest⟩
  ·obtain ⟨x,hx,hr⟩:=h3 i j row av ha hb
   exact ⟨x,hx,hrv hr (ltL_iff.1 (hy row (List.mem_of_getElem? ha)) _ (List.mem_of_getElem? hb))⟩
 | ghost vs env=>exact ⟨ho.1,fun t ht=>hrv (ho.2 t ht) (envLt_aget hy t)⟩
end
theorem conc_keepM {cx:Cx} {a:Act} {w w':World} {st:ASt} {L:Nat → Value} (h:Conc cx a w st L) (hk:KeepM cx.w0.heap.size w w'):Conc cx { a with defers:=[] } w' st L:=conc_keep h hk (Marks.nil _ _ _)
theorem leaves_marks {P:Program} {fn:Func} {tmps:Array Value} {R:Ending → World → Prop} {base:Nat} {S:Nat → Prop}:∀ (ds:List Deferred) (w:World),Marks base w S ds → (∀ w',KeepM base w w' → LeavesIn Fence.wide 0 P fn tmps R [] .returning w') → LeavesInM Fence.wide 0 P fn tmps R ds .returning w
 | [],w,_,h=>h w (KeepM.refl _ _)
 | d :: ds,w,hm,h=>by
  obtain ⟨k,rfl,h1,h2,h3⟩:=hm.2 d (List.mem_cons_self ..)
  have hk:=KeepM.put h1 h2 none
  refine ⟨by simp,.inl ⟨k,_,rfl,run_takeDeferred h2,leaves_marks (S:=S) ds _ ⟨(List.nodup_cons.1 hm.1).2,fun d' hd'=>?_⟩ fun w' hw'=>h w' (hk.trans hw')⟩⟩
  obtain ⟨k',rfl,h4,h5,h6⟩:=hm.2 d' (List.mem_cons_of_mem _ hd')
  refine ⟨k',rfl,h4,?_,h6⟩
  have hne:k' ≠ k:=fun e=>(List.nodup_cons.1 hm.1).1 (by rw [← e];exact hd')
  rw [World.putObj_heap_other hne]
  exact h5
theorem arel_of_wp {P : Program} {f : FuncId} {fn : Func} {c : Code} (hf : P.funcs[f]? = some fn) (hb : fn.body = some c) (hname : (fn.name == "runtime.NumGoroutine") = false) {args : List AV} {Post : Res → Prop} {n : Nat} (hnt : fn.ntmps = n) {rs : List ResultVar} (hrs : fn.results = rs.toArray) (hn : Nat.ble args.length n = true)
  (h:∀ (cx:Cx) (a:Act) (w:World) (L:Nat → Value),Conc cx a w ⟨n,envOf 0 args,[],0⟩ L → c.wp P (AfterC cx (aRetR P rs Post)) a w):ARel P f args Post:=by
 have hn:=Nat.le_of_ble_eq_true hn
 subst hnt
 have hrs:fn.results.toList=rs:=by rw [hrs]
 refine ⟨fun vs w=>?_,fun S w vs hS hvs hv=>?_⟩
 ·have : ¬ fn.name = "runtime.NumGoroutine" := by simpa using hname
  simp [callFunc,Sem.run_bind,hf,this,hb]
 ·let cx:Cx:=(Cx.mk0 S w hS)
  refine (callsIn_wide (n:=0)).1 (callsIn_of_wp_marks hf hb trivial (wpIn_wide.2 ?_))
  have hL:Lay cx w [] (fun _=>undef):=⟨belowX (Below.refl _ _),fun id o h=>(by cases h),fun id id' o o' g h=>(by cases h),fun b hb=>hb.elim⟩
  have hC:Conc cx { tmps:=vs ++ Array.replicate (fn.ntmps - vs.size) undef,defers:=[] } w ⟨fn.ntmps,envOf 0 args,[],0⟩ (fun _=>undef):=by
   refine ⟨hL,?_,Marks.nil _ _ _,fun id o h=>(by cases h),fun t=>?_⟩
   ·simp
    omega
   have e:(⟨fn.ntmps,envOf 0 args,[],0⟩:ASt).get t=args.getD t .any:=by
    show (if t<fn.ntmps then aget (envOf 0 args) t else .any)=_
    rw [aget_envOf]
    split
    ·simp
    ·simp [List.getD,List.getElem?_eq_none (show args.length≤t by omega)]
   rw [e]
   by_cases ht:t<args.length
   ·have ht':t<vs.size:=by omega
    have e2:(vs ++ Array.replicate (fn.ntmps - vs.size) undef).getD t undef=vs[t]:=by
     rw [Array.getD_eq_getD_getElem?,Array.getElem?_append_left ht',Array.getElem?_eq_getElem ht']
     rfl
    have e3:args.getD t .any=args[t]:=by simp [List.getD,ht]
    rw [e2,e3]
    have:=hv t _ _ (Array.getElem?_eq_getElem ht') (List.getElem?_eq_getElem ht)
    exact ⟨.tree (this.mono (fun _ _=>rfl) fun b hb=>⟨hS b hb,⟨.inl hb,fun h=>h⟩,fun id o h=>by cases h⟩),this.lt 0⟩
   ·have e3:args.getD t .any=.any:=by simp [List.getD,List.getElem?_eq_none (Nat.le_of_not_lt ht)]
    rw [e3]
    exact ⟨.tree (.any _),trivial⟩
  refine Code.wp_mono (fun e a w' ⟨st,L,h1,h2⟩=>?_) (h cx _ w _ hC)
  rw [← hrs] at h1
  have key:(aResL P st fn.results.toList fun avs=>∃ R,Post R ∧ R.Ok ∧ aGives R st (aOne avs)) → LeavesInM Fence.wide 0 P fn a.tmps (fun e w'=>∃ v' L R,Post R ∧ R.Ok ∧ e=.returned v' ∧ Lay cx w' R.tab L ∧ RVx cx w' R.tab L v' R.r) a.defers .returning w':=fun h1=>by
   refine leaves_marks _ _ h2.defers fun w2 hk2=>?_
   have h2:=conc_keepM h2 hk2
   clear hk2
   generalize w2=w' at h2
   obtain ⟨v,av,⟨R,hPost,hok,ren,hnd,hr,ht⟩,h4,h5⟩:=res_ok (K:=fun av=>∃ R,Post R ∧ R.Ok ∧ aGives R st av) h2 h1
   refine ⟨v,h5,v,fun k=>L (ren.getD k 0),R,hPost,hok,rfl,?_⟩
   subst hr
   have hget:=fun k o=>tabs_get (st:=st) (T:=R.tab) (k:=k) (o:=o) ht
   have hsub:∀ b,Sx cx w' st.tab L b → Sx cx w' R.tab (fun k=>L (ren.getD k 0)) b:=fun b hb=>⟨hb.1,hb.2.1,fun k o hk=>hb.2.2 _ o (hget k o hk).2.2⟩
   refine ⟨⟨h2.lay.below,fun k o hk=>?_,fun k k' o o' g h6 h7 h8 h9=>?_,fun b hb=>hb.elim⟩,rv_ren hsub (fun k p hk=>?_) _ _ h4⟩
   ·obtain ⟨h6,⟨e,sz,rows,rfl⟩,h7⟩:=hget k o hk
    obtain ⟨h8,xs,h9,h10,h11⟩:=h2.lay.objs _ _ h7
    refine ⟨h8,xs,h9,h10,fun i j row av h12 h13=>?_⟩
    obtain ⟨x,hx,hrt⟩:=h11 i j row av h12 h13
    exact ⟨x,hx,hrt.mono (fun _ _=>rfl) hsub⟩
   ·obtain ⟨ha,_,hb⟩:=hget k o h6
    obtain ⟨ha',_,hb'⟩:=hget k' o' h7
    have:=h2.lay.sep _ _ o o' g hb hb' h8 h9
    simp only [List.getD,List.getElem?_eq_getElem ha,List.getElem?_eq_getElem ha',Option.getD_some] at this
    have hp:=List.pairwise_iff_getElem.1 hnd
    rcases Nat.lt_trichotomy k k' with hlt|he|hlt
    ·exact absurd this (hp k k' ha ha' hlt)
    ·exact he
    ·exact absurd this.symm (hp k' k ha' ha hlt)
   ·unfold Kx at *
    cases ho:R.tab.get k with
    | none=>simp [ho] at hk
    | some o=>
     rw [(hget k o ho).2.2]
     simpa [ho] using hk
  cases e with
  | normal=>exact key h1
  | ret=>exact key h1
  | _=>exact h1.elim
theorem retL_mono {P:Program} {st:ASt}:∀ {l:List ResultVar} {K K':List AV → Prop},(∀ avs,K avs → K' avs) → aResL P st l K → aResL P st l K'
 | [],K,K',h,hp=>h _ hp
 | .tmp t :: l,K,K',h,hp=>retL_mono (l:=l) (fun avs h2=>h _ h2) hp
 | .cell p ty :: l,K,K',h,hp=>by
  have step:∀ av,(aResL P st l fun avs=>K (av :: avs)) → aResL P st l fun avs=>K' (av :: avs):=fun av=>retL_mono (l:=l) (fun avs h2=>h _ h2)
  have take:∀ cs,aTake P ty cs (fun av=>aResL P st l fun avs=>K (av :: avs)) → aTake P ty cs (fun av=>aResL P st l fun avs=>K' (av :: avs)):=fun cs ⟨h1,h2,h3⟩=>⟨h1,h2,by
   split at h3
   ·rw [if_pos (by assumption)];exact step _ h3
   ·rw [if_neg (by assumption)];exact step _ h3⟩
  unfold aResL aLoad at hp ⊢
  split at hp
  ·exact take _ hp
  ·split at hp
   ·rename_i h0
    first | simp only [h0] | skip
    exact ⟨hp.1,take _ hp.2⟩
   ·rename_i h0
    first | simp only [h0] | skip
    exact ⟨hp.1,take _ hp.2⟩
   ·rename_i h0
    first | simp only [h0] | skip
    exact ⟨hp.1,take _ hp.2⟩
   ·exact hp.elim
  ·exact hp.elim
theorem aRet_R {P:Program} {rs:List ResultVar} {R:Res} (hok:R.Ok) (e:Exit) (st:ASt) (h:aRet P rs R e st):aRetR P rs (fun R'=>R'=R) e st:=by
 cases e with
 | normal=>exact retL_mono (fun avs h=>⟨R,rfl,hok,h⟩) h
 | ret=>exact retL_mono (fun avs h=>⟨R,rfl,hok,h⟩) h
 | _=>exact h.elim
theorem adet_of_wp {P : Program} {f : FuncId} {fn : Func} {c : Code} (hf : P.funcs[f]? = some fn) (hb : fn.body = some c) (hname : (fn.name == "runtime.NumGoroutine") = false) {args : List AV} {R : Res} {n : Nat} (hnt : fn.ntmps = n) {rs : List ResultVar} (hrs : fn.results = rs.toArray) (hn : Nat.ble args.length n = true)
  (hok:R.Ok) (h:∀ (cx:Cx) (a:Act) (w:World) (L:Nat → Value),Conc cx a w ⟨n,envOf 0 args,[],0⟩ L → c.wp P (AfterC cx (aRet P rs R)) a w):ADet P f args R:=
 arel_of_wp hf hb hname hnt hrs hn fun cx a w L hc=>Code.wp_mono (fun e a w ⟨st,L,h1,h2⟩=>⟨st,L,aRet_R hok e st h1,h2⟩) (h cx a w L hc)
theorem arel_of_code {P : Program} (hm : P.follows .mixedOrders = true) {f : FuncId} {fn : Func} {c : Code} (hf : P.funcs[f]? = some fn) (hb : fn.body = some c) (hname : (fn.name == "runtime.NumGoroutine") = false) {args : List AV} {Post : Res → Prop} {n : Nat} (hnt : fn.ntmps = n) {rs : List ResultVar} (hrs : fn.results = rs.toArray) (hn : Nat.ble args.length n = true)
  (h:aCode P c (aRetR P rs Post) ⟨n,envOf 0 args,[],0⟩):ARel P f args Post:=
 arel_of_wp hf hb hname hnt hrs hn fun cx a w L hc=>code_ok hm c _ a w _ L hc h
theorem adet_of_code {P : Program} (hm : P.follows .mixedOrders = true) {f : FuncId} {fn : Func} {c : Code} (hf : P.funcs[f]? = some fn) (hb : fn.body = some c) (hname : (fn.name == "runtime.NumGoroutine") = false) {args : List AV} {R : Res} {n : Nat} (hnt : fn.ntmps = n) {rs : List ResultVar} (hrs : fn.results = rs.toArray) (hn : Nat.ble args.length n = true)
  (hok:R.Ok) (h:aCode P c (aRet P rs R) ⟨n,envOf 0 args,[],0⟩):ADet P f args R:=
 adet_of_wp hf hb hname hnt hrs hn hok fun cx a w L hc=>code_ok hm c _ a w _ L hc h
end
section
open Go.RowKit
def envIn (st:ASt):List (Nat × AV) → Prop
 | []=>True
 | (t,av) :: l=>st.get t=av ∧ envIn st l
def tabIn (st:ASt):ATab → Prop
 | []=>True
 | (id,o) :: l=>st.tab.get id=o ∧ tabIn st l
def tabLt (nx:Nat):ATab → Prop
 | []=>True
 | (id,some o) :: l=>(id<nx ∧ o.lt nx) ∧ tabLt nx l
 | (_,none) :: l=>tabLt nx l
theorem envIn_get {st:ASt} {nx:Nat}:∀ {l:List (Nat × AV)} (t:Nat),envIn st l → envLt nx l → (aget l t=st.get t ∨ aget l t=.any) ∧ (aget l t).lt nx
 | [],t,_,_=>⟨.inr rfl,trivial⟩
 | (k,av) :: l,t,h,hl=>by
  unfold aget
  split
  ·rename_i e
   rw [e]
   exact ⟨.inl h.1.symm,hl.1⟩
  ·exact envIn_get t h.2 hl.2
theorem tabIn_get {st:ASt} {nx:Nat}:∀ {l:ATab} {id:Nat} {o:AObj},tabIn st l → tabLt nx l → l.get id=some o → st.tab.get id=some o ∧ id<nx ∧ o.lt nx
 | [],id,o,_,_,h=>by cases h
 | (k,oo) :: l,id,o,h,hl,hg=>by
  rw [ATab.get_cons] at hg
  split at hg
  ·rename_i e
   subst e
   subst hg
   exact ⟨h.1,hl.1.1,hl.1.2⟩
  ·cases oo with
   | none=>exact tabIn_get h.2 hl hg
   | some=>exact tabIn_get h.2 hl.2 hg
theorem weak_cut {st:ASt} {n nx:Nat} {env:List (Nat × AV)} {tab:ATab} (hn:st.n=n) (he:envIn st env) (ht:tabIn st tab) (hl:envLt nx env) (hl2:tabLt nx tab):Weak st ⟨n,env,tab,nx⟩:=by
 intro cx a w L h
 have hsub:∀ id o,tab.get id=some o → st.tab.get id=some o:=fun id o hid=>(tabIn_get ht hl2 hid).1
 have hS:∀ b,Sx cx w st.tab L b → Sx cx w tab L b:=fun b hb=>⟨hb.1,hb.2.1,fun id o hid=>hb.2.2 id o (hsub id o hid)⟩
 have hK:∀ id p,Kx tab L id=some p → Kx st.tab L id=some p:=fun id p hk=>by
  unfold Kx at *
  cases ho:tab.get id with
  | none=>simp [ho] at hk
  | some o=>rw [hsub id o ho];simpa [ho] using hk
 have hrv:∀ x av,RVx cx w st.tab L x av → RVx cx w tab L x av:=fun x av hr=>by
  have:∀ nx',av.lt nx' → RVx cx w tab L x av:=fun nx' hlt=>hr.mono hlt (fun _ _=>rfl) hS (fun id p _ hk=>hK id p hk)
  induction hr with
  | tree h=>exact .tree (h.mono (fun _ _=>rfl) hS)
  | osl x id h=>exact .osl x id fun sz v e=>h sz v (hK id _ e)
  | op x id i j h=>exact .op x id i j fun sz v e=>h sz v (hK id _ e)
  | agg xs cs hn hr ih=>exact .agg xs cs hn fun j x av h1 h2=>ih j x av h1 h2 fun nx' hlt=>(hr j x av h1 h2).mono hlt (fun _ _=>rfl) hS (fun id p _ hk=>hK id p hk)
  | tup xs cs hn hr ih=>exact .tup xs cs hn fun j x av h1 h2=>ih j x av h1 h2 fun nx' hlt=>(hr j x av h1 h2).mono hlt (fun _ _=>rfl) hS (fun id p _ hk=>hK id p hk)
  | fn fi xs cs hn hr ih=>exact .fn fi xs cs hn fun j x av h1 h2=>ih j x av h1 h2 fun nx' hlt=>(hr j x av h1 h2).mono hlt (fun _ _=>rfl) hS (fun id p _ hk=>hK id p hk)
  | bfn fi xs cs hn hr ih=>exact .bfn fi xs cs hn fun j x av h1 h2=>ih j x av h1 h2 fun nx' hlt=>(hr j x av h1 h2).mono hlt (fun _ _=>rfl) hS (fun id p _ hk=>hK id p hk)
 refine ⟨L,⟨⟨h.lay.below,fun id o hid=>?_,fun id id' o o' g h1 h2=>h.lay.sep id id' o o' g (hsub id o h1) (hsub id' o' h2),fun b hb=>⟨(h.lay.ex b hb).1,fun id o hid=>(h.lay.ex b hb).2 id o (hsub id o hid)⟩⟩,h.size.trans hn,h.defers.mono (fun _ _=>rfl) hS,fun id o hid=>(tabIn_get ht hl2 hid).2,fun t=>?_⟩,hS⟩
 ·have ho:=h.lay.objs id o (hsub id o hid)
  have hext:Ext cx w st.tab L 0 w tab L:=⟨fun _ _=>rfl,hS,fun id p hlt=>by omega⟩
  cases o with
  | box t cells=>
   obtain ⟨g,cs,h1,h2,h3,h4,h5⟩:=ho
   exact ⟨g,cs,h1,h2,h3,h4,fun j x av h6 h7=>⟨hrv x av (h5 j x av h6 h7).1,(h5 j x av h6 h7).2⟩⟩
  | row e sz rows=>
   obtain ⟨h1,xs,h2,h3,h4⟩:=ho
   refine ⟨h1,xs,h2,h3,fun i j row av h5 h6=>?_⟩
   obtain ⟨x,hx,hr⟩:=h4 i j row av h5 h6
   exact ⟨x,hx,hext.rt hr⟩
  | map ents=>exact ho
  | nest e sz rows=>
   obtain ⟨h1,xs,h2,h3,h4⟩:=ho
   refine ⟨h1,xs,h2,h3,fun i j row av h5 h6=>?_⟩
   obtain ⟨x,hx,hr⟩:=h4 i j row av h5 h6
   exact ⟨x,hx,hrv x av hr⟩
  | ghost vs env=>exact ⟨ho.1,fun t ht=>hrv _ _ (ho.2 t ht)⟩
 ·obtain ⟨h1,h2⟩:=envIn_get t he hl
  show RVx cx w tab L _ (if t<n then aget env t else .any) ∧ (if t<n then aget env t else .any).lt nx
  split
  case isFalse=>exact ⟨.tree (.any _),trivial⟩
  refine ⟨?_,h2⟩
  rcases h1 with h1|h1
  ·rw [h1]
   exact hrv _ _ (h.env t).1
  ·rw [h1]
   exact .tree (.any _)
theorem Weak.trans {st st' st'':ASt} (h:Weak st st') (h2:Weak st' st''):Weak st st'':=fun cx a w L hc=>(h cx a w L hc).elim fun L' hc'=>(h2 cx a w L' hc'.1).elim fun L2 h3=>⟨L2,h3.1,fun b hb=>h3.2 b (hc'.2 b hb)⟩
def renEnv (l:List Nat):List (Nat × AV) → List (Nat × AV)
 | []=>[]
 | (t,av) :: r=>(t,av.ren l) :: renEnv l r
theorem renEnv_get (l:List Nat):∀ (r:List (Nat × AV)) (t:Nat),aget (renEnv l r) t=(aget r t).ren l
 | [],t=>rfl
 | (q,av) :: r,t=>by
  unfold renEnv aget
  split
  ·rfl
  ·exact renEnv_get l r t
def AObj.ren (l:List Nat):AObj → AObj
 | .box t cells=>.box t (AV.renL l cells)
 | .row e sz rows=>.row e sz rows
 | .nest e sz rows=>.nest e sz (rows.map (AV.renL l))
 | .map ents=>.map ents
 | .ghost vs env=>.ghost vs (renEnv l env)
theorem AObj.ren_sz (l:List Nat) (o:AObj):(o.ren l).sz=o.sz:=by cases o <;> simp [AObj.ren,AObj.sz,renL_map]
def envInR (st:ASt) (ids:List Nat):List (Nat × AV) → Prop
 | []=>True
 | (t,av) :: l=>st.get t=av.ren ids ∧ envInR st ids l
def tabInR (st:ASt) (ids:List Nat):ATab → Prop
 | []=>True
 | (id,some o) :: l=>(id<ids.length ∧ st.tab.get (ids.getD id 0)=some (o.ren ids)) ∧ tabInR st ids l
 | (_,none) :: l=>tabInR st ids l
theorem envInR_get {st:ASt} {ids:List Nat} {nx:Nat}:∀ {l:List (Nat × AV)} (t:Nat),envInR st ids l → envLt nx l → ((aget l t).ren ids=st.get t ∨ aget l t=.any) ∧ (aget l t).lt nx
 | [],t,_,_=>⟨.inr rfl,trivial⟩
 | (k,av) :: l,t,h,hl=>by
  unfold aget
  split
  ·rename_i e
   rw [e]
   exact ⟨.inl h.1.symm,hl.1⟩
  ·exact envInR_get t h.2 hl.2
theorem tabInR_get {st:ASt} {ids:List Nat} {nx:Nat}:∀ {l:ATab} {id:Nat} {o:AObj},tabInR st ids l → tabLt nx l → l.get id=some o → (id<ids.length ∧ st.tab.get (ids.getD id 0)=some (o.ren ids)) ∧ id<nx ∧ o.lt nx
 | [],id,o,_,_,h=>by cases h
 | (k,some oo) :: l,id,o,h,hl,hg=>by
  rw [ATab.get_cons] at hg
  split at hg
  ·rename_i e
   subst e
   cases hg
   exact ⟨h.1,hl.1.1,hl.1.2⟩
  ·exact tabInR_get h.2 hl.2 hg
 | (k,none) :: l,id,o,h,hl,hg=>by
  rw [ATab.get_cons] at hg
  split at hg
  ·cases hg
  ·exact tabInR_get (l:=l) h hl hg
theorem weak_ren {st:ASt} {n nx:Nat} {env:List (Nat × AV)} {tab:ATab} (ids:List Nat) (hnd:ids.Nodup) (hn:st.n=n) (he:envInR st ids env) (ht:tabInR st ids tab) (hl:envLt nx env) (hl2:tabLt nx tab):Weak st ⟨n,env,tab,nx⟩:=by
 intro cx a w L h
 have hget:∀ k o,tab.get k=some o → k<ids.length ∧ st.tab.get (ids.getD k 0)=some (o.ren ids):=fun k o hk=>(tabInR_get ht hl2 hk).1
 have hS:∀ b,Sx cx w st.tab L b → Sx cx w tab (fun k=>L (ids.getD k 0)) b:=fun b hb=>⟨hb.1,hb.2.1,fun k o hk=>hb.2.2 _ _ (hget k o hk).2⟩
 have hK:∀ k p,Kx tab (fun k=>L (ids.getD k 0)) k=some p → Kx st.tab L (ids.getD k 0)=some p:=fun k p hk=>by
  unfold Kx at *
  cases ho:tab.get k with
  | none=>simp [ho] at hk
  | some o=>
   rw [(hget k o ho).2]
   simpa [ho,AObj.ren_sz] using hk
 refine ⟨fun k=>L (ids.getD k 0),⟨⟨h.lay.below,fun k o hk=>?_,fun k k' o o' g h6 h7 h8 h9=>?_,fun b hb=>⟨(h.lay.ex b hb).1,fun k o hk=>(h.lay.ex b hb).2 _ _ (hget k o hk).2⟩⟩,h.size.trans hn,h.defers.mono (fun _ _=>rfl) hS,fun id o hid=>(tabInR_get ht hl2 hid).2,fun t=>?_⟩,hS⟩
 ·obtain ⟨_,h7⟩:=hget k o hk
  have ho:=h.lay.objs _ _ h7
  cases o with
  | box t cells=>
   obtain ⟨g,cs,h1,h2,h3,h4,h5⟩:=ho
   refine ⟨g,cs,h1,h2,h3,by simpa [renL_map] using h4,fun j x av h6 h8=>?_⟩
   have h9:=h5 j x (av.ren ids) h6 (by rw [renL_map,List.getElem?_map,h8];rfl)
   exact ⟨rv_ren hS hK av x h9.1,h9.2⟩
  | row e sz rows=>
   obtain ⟨h1,xs,h2,h3,h4⟩:=ho
   refine ⟨h1,xs,h2,h3,fun i j row av h5 h6=>?_⟩
   obtain ⟨x,hx,hr⟩:=h4 i j row av h5 h6
   exact ⟨x,hx,hr.mono (fun _ _=>rfl) hS⟩
  | map ents=>exact ho
  | nest e sz rows=>
   obtain ⟨h1,xs,h2,h3,h4⟩:=ho
   refine ⟨fun row hr=>by simpa [renL_map] using h1 (AV.renL ids row) (List.mem_map.2 ⟨row,hr,rfl⟩),xs,by simpa using h2,h3,fun i j row av h5 h6=>?_⟩
   obtain ⟨x,hx,hr⟩:=h4 i j (AV.renL ids row) (av.ren ids) (by rw [List.getElem?_map,h5];rfl) (by rw [renL_map,List.getElem?_map,h6];rfl)
   exact ⟨x,hx,rv_ren hS hK _ _ hr⟩
  | ghost vs env=>
   refine ⟨ho.1,fun t ht=>rv_ren hS hK _ _ ?_⟩
   have h9:=ho.2 t ht
   rwa [renEnv_get] at h9
 ·obtain ⟨ha,hb⟩:=hget k o h6
  obtain ⟨ha',hb'⟩:=hget k' o' h7
  have:=h.lay.sep _ _ _ _ g hb hb' h8 h9
  simp only [List.getD,List.getElem?_eq_getElem ha,List.getElem?_eq_getElem ha',Option.getD_some] at this
  have hp:=List.pairwise_iff_getElem.1 hnd
  rcases Nat.lt_trichotomy k k' with hlt|he|hlt
  ·exact absurd this (hp k k' ha ha' hlt)
  ·exact he
  ·exact absurd this.symm (hp k' k ha' ha hlt)
 ·obtain ⟨h1,h2⟩:=envInR_get t he hl
  show RVx cx w tab _ _ (if t<n then aget env t else .any) ∧ (if t<n then aget env t else .any).lt nx
  split
  case isFalse=>exact ⟨.tree (.any _),trivial⟩
  refine ⟨?_,h2⟩
  rcases h1 with h1|h1
  ·refine rv_ren hS hK _ _ ?_
   rw [h1]
   exact (h.env t).1
  ·rw [h1]
   exact .tree (.any _)
theorem weak_nil {st:ASt} (t e sz:Nat) (hg:st.get t=.c (.slice none 0 0)):Weak st ⟨st.n,(t,.osl st.next) :: st.env,(st.next,some (.row e sz [])) :: st.tab,st.next+1⟩:=by
 intro cx a w L h
 have hv:=(h.env t).1
 rw [hg] at hv
 have hv:=hv.c_inv
 have hput:a.put (some t) (.slice none 0 0)=a:=by
  unfold Act.put
  have:a.tmps.setIfInBounds t (.slice none 0 0)=a.tmps:=by
   apply Array.ext (by simp)
   intro i h1 h2
   rw [Array.getElem_setIfInBounds]
   split
   ·rename_i e
    subst e
    rw [← hv]
    simp [Array.getD,h2]
   ·rfl
  simp only [this]
 refine ⟨updL L st.next (.slice none 0 0),?_,fun b hb=>⟨hb.1,hb.2.1,fun k o hk hg=>?_⟩⟩
 rotate_left
 ·have hk:ATab.get ((st.next,some (.row e sz [])) :: st.tab) k=some o:=hk
  rw [ATab.get_cons] at hk
  unfold updL at hg
  split at hk
  ·rename_i e1
   rw [if_pos e1] at hg
   simp [vblk] at hg
  ·rename_i e1
   rw [if_neg e1] at hg
   exact hb.2.2 k o hk hg
 have:=conc_new (ob:=.row e sz []) (v:=.slice none 0 0) (x:=.slice none 0 0) (av:=.osl st.next) h (Below.refl _ _) (fun g hg=>by simp [vblk] at hg) (fun hext=>⟨by simp,[],ownsR_nil ..,by simp,by simp⟩) trivial (fun hext=>?_) (Nat.lt_succ_self _) (some t)
 ·rw [hput] at this
  exact this
 ·refine .osl _ _ fun sz u hk=>?_
  simp [Kx,ATab.get_cons,updL] at hk
  exact hk.2
theorem weak_cut1 {st:ASt} {n nx:Nat} {env:List (Nat × AV)} {tab:ATab} (h:st.n=n ∧ (envIn st env ∧ tabIn st tab) ∧ envLt nx env ∧ tabLt nx tab):Weak st ⟨n,env,tab,nx⟩:=weak_cut h.1 h.2.1.1 h.2.1.2 h.2.2.1 h.2.2.2
theorem weak_ren1 {st:ASt} {n nx:Nat} {env:List (Nat × AV)} {tab:ATab} (ids:List Nat) (h:ids.Nodup ∧ st.n=n ∧ (envInR st ids env ∧ tabInR st ids tab) ∧ envLt nx env ∧ tabLt nx tab):Weak st ⟨n,env,tab,nx⟩:=weak_ren ids h.1 h.2.1 h.2.2.1.1 h.2.2.1.2 h.2.2.2.1 h.2.2.2.2
def slotN (st:ASt) (t:Nat):Nat:=match st.get t with | .c (.int _ n)=>n.toNat | _=>0
theorem wrap_in {x:Int} (h1:-9223372036854775808≤x) (h2:x≤9223372036854775807):IntKind.i64.wrap x=x:=by
 rw [IntKind.wrap_i64];omega
theorem wrapK {k:Nat} (h:k≤4611686018427387904):IntKind.i64.wrap ((k:Int)+1)=((k+1:Nat):Int):=by
 rw [wrap_in (by omega) (by omega)];omega
def val (v:Value):Res:=⟨.c v,[],0⟩
theorem val_ok (v:Value):(val v).Ok:=⟨fun id o h=>(by cases h),trivial⟩
theorem gives_val {v:Value} {st:ASt} {av:AV} (h:av=.c v):aGives (val v) st av:=⟨[],List.nodup_nil,by rw [h];rfl,trivial⟩
theorem aGives_val {v:Value} {st:ASt} {av:AV}:aGives (val v) st av=(av=.c v):=propext ⟨fun ⟨ren,_,h,_⟩=>h.symm,gives_val⟩
abbrev eI (n:Int):AV:=.c (.int .i64 n)
abbrev eB (b:Bool):AV:=.c (.bool b)
abbrev eS (s:ByteArray):AV:=.c (.string s)
abbrev sI (l:List Int):AV:=.sl 1 (l.map fun n=>[eI n])
theorem row_at {α:Type} {f:α → List AV} {l:List α} {k:Nat} (h:k<l.length):(l.map f)[k]?.getD []=f l[k]:=by
 rw [List.getElem?_map,List.getElem?_eq_getElem h];rfl
theorem callD {P:Program} {g:FuncId} {args:List AV} {v:Value} {K:Value → Prop} (h:ADet P g args (val v)) (hk:K v):∃ v,ADet P g args ⟨.c v,[],0⟩ ∧ K v:=⟨v,h,hk⟩
theorem roundI {I:ASt → Prop} {μ:ASt → Nat} {n:Nat} {st st':ASt} (hw:Weak st st') (hI:I st') (hm:μ st'<n):aRound I μ n st:=⟨st',hw,hI,hm⟩
end
section
open Go.RowKit
theorem tyA_32:tyAgg Tryz.prog 32=true:=by kernel_rfl
theorem tyS_32:tySize Tryz.prog 32=10:=by kernel_rfl
theorem tyY_34:tyArr Tryz.prog 34=(2,1):=by kernel_rfl
theorem tyA_5:tyAgg Tryz.prog 5=false:=by kernel_rfl
theorem tyS_5:tySize Tryz.prog 5=1:=by kernel_rfl
theorem tyI_5:tyInt Tryz.prog 5=some IntKind.u8:=by kernel_rfl
theorem tyI_3:tyInt Tryz.prog 3=some IntKind.i64:=by kernel_rfl
theorem tyE_37:tyElem Tryz.prog 37=(63,3):=by kernel_rfl
theorem tyK_3:tyK Tryz.prog 3=TyK.int:=by kernel_rfl
theorem tyE_40:tyElem Tryz.prog 40=(69,5):=by kernel_rfl
theorem tyF_32_6:fOff Tryz.prog 32 6=some 6:=by kernel_rfl
theorem tyA_27:tyAgg Tryz.prog 27=false:=by kernel_rfl
theorem tyS_27:tySize Tryz.prog 27=1:=by kernel_rfl
theorem tyE_27:tyElem Tryz.prog 27=(48,3):=by kernel_rfl
theorem tyF_32_7:fOff Tryz.prog 32 7=some 7:=by kernel_rfl
theorem tyA_28:tyAgg Tryz.prog 28=false:=by kernel_rfl
theorem tyS_28:tySize Tryz.prog 28=1:=by kernel_rfl
theorem tyE_28:tyElem Tryz.prog 28=(50,5):=by kernel_rfl
theorem tyF_32_4:fOff Tryz.prog 32 4=some 4:=by kernel_rfl
theorem tyA_25:tyAgg Tryz.prog 25=false:=by kernel_rfl
theorem tyS_25:tySize Tryz.prog 25=1:=by kernel_rfl
theorem tyE_25:tyElem Tryz.prog 25=(80,2):=by kernel_rfl
theorem tyF_32_5:fOff Tryz.prog 32 5=some 5:=by kernel_rfl
theorem tyA_26:tyAgg Tryz.prog 26=false:=by kernel_rfl
theorem tyS_26:tySize Tryz.prog 26=1:=by kernel_rfl
theorem tyE_26:tyElem Tryz.prog 26=(53,5):=by kernel_rfl
theorem tyF_32_0:fOff Tryz.prog 32 0=some 0:=by kernel_rfl
theorem tyA_22:tyAgg Tryz.prog 22=false:=by kernel_rfl
theorem tyS_22:tySize Tryz.prog 22=1:=by kernel_rfl
theorem tyE_22:tyElem Tryz.prog 22=(9,1):=by kernel_rfl
theorem tyF_32_2:fOff Tryz.prog 32 2=some 2:=by kernel_rfl
theorem tyF_32_3:fOff Tryz.prog 32 3=some 3:=by kernel_rfl
theorem tyA_24:tyAgg Tryz.prog 24=false:=by kernel_rfl
theorem tyS_24:tySize Tryz.prog 24=1:=by kernel_rfl
theorem tyE_24:tyElem Tryz.prog 24=(78,2):=by kernel_rfl
theorem tyF_32_8:fOff Tryz.prog 32 8=some 8:=by kernel_rfl
theorem tyA_29:tyAgg Tryz.prog 29=false:=by kernel_rfl
theorem tyS_29:tySize Tryz.prog 29=1:=by kernel_rfl
theorem tyE_29:tyElem Tryz.prog 29=(85,2):=by kernel_rfl
theorem tyF_32_9:fOff Tryz.prog 32 9=some 9:=by kernel_rfl
theorem tyA_30:tyAgg Tryz.prog 30=false:=by kernel_rfl
theorem tyS_30:tySize Tryz.prog 30=1:=by kernel_rfl
theorem tyE_30:tyElem Tryz.prog 30=(93,2):=by kernel_rfl
theorem tyF_32_1:fOff Tryz.prog 32 1=some 1:=by kernel_rfl
theorem tyA_23:tyAgg Tryz.prog 23=false:=by kernel_rfl
theorem tyS_23:tySize Tryz.prog 23=1:=by kernel_rfl
theorem tyE_23:tyElem Tryz.prog 23=(2,1):=by kernel_rfl
theorem tyK_23:tyK Tryz.prog 23=TyK.slice:=by kernel_rfl
theorem tyF_48_2:fOff Tryz.prog 48 2=some 2:=by kernel_rfl
theorem tyA_46:tyAgg Tryz.prog 46=false:=by kernel_rfl
theorem tyS_46:tySize Tryz.prog 46=1:=by kernel_rfl
theorem tyE_46:tyElem Tryz.prog 46=(110,7):=by kernel_rfl
theorem tyF_50_3:fOff Tryz.prog 50 3=some 3:=by kernel_rfl
theorem tyF_53_3:fOff Tryz.prog 53 3=some 3:=by kernel_rfl
theorem tyA_51:tyAgg Tryz.prog 51=false:=by kernel_rfl
theorem tyS_51:tySize Tryz.prog 51=1:=by kernel_rfl
theorem tyE_51:tyElem Tryz.prog 51=(3,1):=by kernel_rfl
theorem tyB_32:tyParts Tryz.prog 32=some ([(0,1),(1,1),(2,1),(3,1),(4,1),(5,1),(6,1),(7,1),(8,1),(9,1)],[Value.slice none 0 0,Value.slice none 0 0,Value.slice none 0 0,Value.slice none 0 0,Value.slice none 0 0,Value.slice none 0 0,Value.slice none 0 0,Value.slice none 0 0,Value.slice none 0 0,Value.slice none 0 0]):=by kernel_rfl
theorem tyF_63_0:fOff Tryz.prog 63 0=some 0:=by kernel_rfl
theorem tyA_3:tyAgg Tryz.prog 3=false:=by kernel_rfl
theorem tyS_3:tySize Tryz.prog 3=1:=by kernel_rfl
theorem tyB_66:tyParts Tryz.prog 66=some ([(0,1)],[Value.int IntKind.u64 0]):=by kernel_rfl
theorem tyZ_69:tyZero Tryz.prog 69=some (Value.agg #[Value.slice none 0 0,Value.int IntKind.i64 0,Value.int IntKind.i64 0,Value.slice none 0 0,Value.slice none 0 0]):=by kernel_rfl
theorem tyS_69:tySize Tryz.prog 69=5:=by kernel_rfl
theorem tyA_69:tyAgg Tryz.prog 69=true:=by kernel_rfl
theorem tyA_63:tyAgg Tryz.prog 63=true:=by kernel_rfl
theorem tyS_63:tySize Tryz.prog 63=3:=by kernel_rfl
theorem tyZ_63:tyZero Tryz.prog 63=some (Value.agg #[Value.int IntKind.i64 0,Value.int IntKind.i64 0,Value.slice none 0 0]):=by kernel_rfl
theorem tyF_63_2:fOff Tryz.prog 63 2=some 2:=by kernel_rfl
theorem tyS_2:tySize Tryz.prog 2=1:=by kernel_rfl
theorem tyR_37:tyRow Tryz.prog 37=some (63,3,40):=by kernel_rfl
theorem tyF_66_0:fOff Tryz.prog 66 0=some 0:=by kernel_rfl
theorem tyA_33:tyAgg Tryz.prog 33=false:=by kernel_rfl
theorem tyS_33:tySize Tryz.prog 33=1:=by kernel_rfl
theorem tyR_40:tyRow Tryz.prog 40=some (69,5,88):=by kernel_rfl
theorem tyF_63_1:fOff Tryz.prog 63 1=some 1:=by kernel_rfl
theorem tyF_78_1:fOff Tryz.prog 78 1=some 1:=by kernel_rfl
theorem tyF_80_1:fOff Tryz.prog 80 1=some 1:=by kernel_rfl
theorem tyA_53:tyAgg Tryz.prog 53=true:=by kernel_rfl
theorem tyS_53:tySize Tryz.prog 53=5:=by kernel_rfl
theorem tyZ_53:tyZero Tryz.prog 53=some (Value.agg #[Value.string ByteArray.empty,Value.int IntKind.i64 0,Value.int IntKind.i64 0,Value.slice none 0 0,Value.int IntKind.i64 0]):=by kernel_rfl
theorem tyF_53_1:fOff Tryz.prog 53 1=some 1:=by kernel_rfl
theorem tyF_53_2:fOff Tryz.prog 53 2=some 2:=by kernel_rfl
theorem tyA_48:tyAgg Tryz.prog 48=true:=by kernel_rfl
theorem tyS_48:tySize Tryz.prog 48=3:=by kernel_rfl
theorem tyZ_48:tyZero Tryz.prog 48=some (Value.agg #[Value.int IntKind.i64 0,Value.int IntKind.i64 0,Value.slice none 0 0]):=by kernel_rfl
theorem tyF_48_0:fOff Tryz.prog 48 0=some 0:=by kernel_rfl
theorem tyF_48_1:fOff Tryz.prog 48 1=some 1:=by kernel_rfl
theorem tyA_50:tyAgg Tryz.prog 50=true:=by kernel_rfl
theorem tyS_50:tySize Tryz.prog 50=5:=by kernel_rfl
theorem tyZ_50:tyZero Tryz.prog 50=some (Value.agg #[Value.string ByteArray.empty,Value.int IntKind.i64 0,Value.int IntKind.i64 0,Value.slice none 0 0,Value.bool false]):=by kernel_rfl
theorem tyF_50_1:fOff Tryz.prog 50 1=some 1:=by kernel_rfl
theorem tyF_50_2:fOff Tryz.prog 50 2=some 2:=by kernel_rfl
theorem tyF_85_0:fOff Tryz.prog 85 0=some 0:=by kernel_rfl
theorem tyF_85_1:fOff Tryz.prog 85 1=some 1:=by kernel_rfl
theorem tyF_53_4:fOff Tryz.prog 53 4=some 4:=by kernel_rfl
theorem tyR_51:tyRow Tryz.prog 51=some (3,1,8):=by kernel_rfl
theorem tyR_23:tyRow Tryz.prog 23=some (2,1,8):=by kernel_rfl
theorem tyR_90:tyRow Tryz.prog 90=some (4,1,1):=by kernel_rfl
theorem tyQ_90:isMk 90=false:=by kernel_rfl
theorem tyE_90:tyElem Tryz.prog 90=(4,1):=by kernel_rfl
theorem tyA_4:tyAgg Tryz.prog 4=false:=by kernel_rfl
theorem tyS_4:tySize Tryz.prog 4=1:=by kernel_rfl
theorem tyR_30:tyRow Tryz.prog 30=some (93,2,16):=by kernel_rfl
theorem tyA_93:tyAgg Tryz.prog 93=true:=by kernel_rfl
theorem tyS_93:tySize Tryz.prog 93=2:=by kernel_rfl
theorem tyQ_23:isMk 23=true:=by kernel_rfl
theorem tyB_63:tyParts Tryz.prog 63=some ([(0,1),(1,1),(2,1)],[Value.int IntKind.i64 0,Value.int IntKind.i64 0,Value.slice none 0 0]):=by kernel_rfl
theorem tyF_69_0:fOff Tryz.prog 69 0=some 0:=by kernel_rfl
theorem tyA_2:tyAgg Tryz.prog 2=false:=by kernel_rfl
theorem tyB_69:tyParts Tryz.prog 69=some ([(0,1),(1,1),(2,1),(3,1),(4,1)],[Value.slice none 0 0,Value.int IntKind.i64 0,Value.int IntKind.i64 0,Value.slice none 0 0,Value.slice none 0 0]):=by kernel_rfl
theorem tyF_110_0:fOff Tryz.prog 110 0=some 0:=by kernel_rfl
theorem tyB_116:tyParts Tryz.prog 116=some ([(0,1),(1,2),(3,2),(5,1),(6,1),(7,2)],[Value.int IntKind.i64 0,Value.string ByteArray.empty,Value.int IntKind.i64 0,Value.string ByteArray.empty,Value.int IntKind.i64 0,Value.string ByteArray.empty,Value.string ByteArray.empty,Value.int IntKind.i64 0,Value.int IntKind.i64 0]):=by kernel_rfl
theorem tyR_106:tyRow Tryz.prog 106=some (116,9,104):=by kernel_rfl
theorem tyA_110:tyAgg Tryz.prog 110=true:=by kernel_rfl
theorem tyS_110:tySize Tryz.prog 110=7:=by kernel_rfl
theorem tyF_110_1:fOff Tryz.prog 110 1=some 1:=by kernel_rfl
theorem tyF_108_0:fOff Tryz.prog 108 0=some 0:=by kernel_rfl
theorem tyF_108_1:fOff Tryz.prog 108 1=some 1:=by kernel_rfl
theorem tyF_110_2:fOff Tryz.prog 110 2=some 3:=by kernel_rfl
theorem tyZ_93:tyZero Tryz.prog 93=some (Value.agg #[Value.bool false,Value.int IntKind.i64 0]):=by kernel_rfl
theorem tyB_93:tyParts Tryz.prog 93=some ([(0,1),(1,1)],[Value.bool false,Value.int IntKind.i64 0]):=by kernel_rfl
theorem tyA_78:tyAgg Tryz.prog 78=true:=by kernel_rfl
theorem tyS_78:tySize Tryz.prog 78=2:=by kernel_rfl
theorem tyZ_78:tyZero Tryz.prog 78=some (Value.agg #[Value.string ByteArray.empty,Value.int IntKind.i64 0]):=by kernel_rfl
theorem tyA_80:tyAgg Tryz.prog 80=true:=by kernel_rfl
theorem tyS_80:tySize Tryz.prog 80=2:=by kernel_rfl
theorem tyZ_80:tyZero Tryz.prog 80=some (Value.agg #[Value.string ByteArray.empty,Value.int IntKind.i64 0]):=by kernel_rfl
theorem tyA_85:tyAgg Tryz.prog 85=true:=by kernel_rfl
theorem tyS_85:tySize Tryz.prog 85=2:=by kernel_rfl
theorem tyZ_85:tyZero Tryz.prog 85=some (Value.agg #[Value.int IntKind.i64 0,Value.int IntKind.i64 0]):=by kernel_rfl
theorem tyZ_30:tyZero Tryz.prog 30=some (Value.slice none 0 0):=by kernel_rfl
theorem tyI_33:tyInt Tryz.prog 33=some IntKind.u64:=by kernel_rfl
theorem tyQ_51:isMk 51=false:=by kernel_rfl
theorem tyF_69_3:fOff Tryz.prog 69 3=some 3:=by kernel_rfl
theorem tyF_69_4:fOff Tryz.prog 69 4=some 4:=by kernel_rfl
theorem tyF_69_1:fOff Tryz.prog 69 1=some 1:=by kernel_rfl
theorem tyF_69_2:fOff Tryz.prog 69 2=some 2:=by kernel_rfl
theorem tyK_4:tyK Tryz.prog 4=TyK.bool:=by kernel_rfl
theorem tyE_106:tyElem Tryz.prog 106=(116,9):=by kernel_rfl
theorem tyF_110_3:fOff Tryz.prog 110 3=some 5:=by kernel_rfl
theorem tyF_110_4:fOff Tryz.prog 110 4=some 6:=by kernel_rfl
theorem tyE_144:tyElem Tryz.prog 144=(108,2):=by kernel_rfl
theorem tyA_108:tyAgg Tryz.prog 108=true:=by kernel_rfl
theorem tyS_108:tySize Tryz.prog 108=2:=by kernel_rfl
theorem tyZ_108:tyZero Tryz.prog 108=some (Value.agg #[Value.int IntKind.i64 0,Value.int IntKind.i64 0]):=by kernel_rfl
theorem tyZ_152:tyZero Tryz.prog 152=some (Value.agg #[Value.int IntKind.i64 0,Value.int IntKind.i64 0,Value.slice none 0 0,Value.int IntKind.i64 0]):=by kernel_rfl
theorem tyS_152:tySize Tryz.prog 152=4:=by kernel_rfl
theorem tyF_152_2:fOff Tryz.prog 152 2=some 2:=by kernel_rfl
theorem tyF_93_0:fOff Tryz.prog 93 0=some 0:=by kernel_rfl
theorem tyF_152_3:fOff Tryz.prog 152 3=some 3:=by kernel_rfl
theorem tyF_152_0:fOff Tryz.prog 152 0=some 0:=by kernel_rfl
theorem tyZ_4:tyZero Tryz.prog 4=some (Value.bool false):=by kernel_rfl
theorem tyF_93_1:fOff Tryz.prog 93 1=some 1:=by kernel_rfl
theorem tyF_116_0:fOff Tryz.prog 116 0=some 0:=by kernel_rfl
theorem tyZ_110:tyZero Tryz.prog 110=some (Value.agg #[Value.int IntKind.i64 0,Value.int IntKind.i64 0,Value.int IntKind.i64 0,Value.int IntKind.i64 0,Value.int IntKind.i64 0,Value.int IntKind.i64 0,Value.int IntKind.i64 0]):=by kernel_rfl
theorem tyR_144:tyRow Tryz.prog 144=some (108,2,16):=by kernel_rfl
theorem tyF_152_1:fOff Tryz.prog 152 1=some 1:=by kernel_rfl
theorem tyA_152:tyAgg Tryz.prog 152=true:=by kernel_rfl
theorem tyB_152:tyParts Tryz.prog 152=some ([(0,1),(1,1),(2,1),(3,1)],[Value.int IntKind.i64 0,Value.int IntKind.i64 0,Value.slice none 0 0,Value.int IntKind.i64 0]):=by kernel_rfl
theorem tyF_50_4:fOff Tryz.prog 50 4=some 4:=by kernel_rfl
theorem tyZ_3:tyZero Tryz.prog 3=some (Value.int IntKind.i64 0):=by kernel_rfl
theorem tyZ_2:tyZero Tryz.prog 2=some (Value.int IntKind.i64 0):=by kernel_rfl
end
section
open Go.RowKit
def SC (P:Program) (c:Code) (Q:Exit → ASt → Prop) (st:ASt):Prop:=∀ (cx:Cx) (a:Act) (w:World) (L:Nat → Value),Conc cx a w st L → c.wp P (AfterC cx Q) a w
section
variable {P:Program} {x y:Code} {Q Q':Exit → ASt → Prop} {st st':ASt}
theorem SC.mono (h:SC P x Q st) (hq:∀ e st,Q e st → Q' e st):SC P x Q' st:=fun cx a w L hc=>Code.wp_mono (fun e a w ⟨st',L',h1,h2⟩=>⟨st',L',hq e st' h1,h2⟩) (h cx a w L hc)
theorem aTo_mk {I:ASt → Prop} (hw:Weak st st') (h:I st'):aTo I st:=⟨st',hw,h⟩
end
theorem adet_of_calls {P:Program} {f:FuncId} {args:List AV} {v:Value} (he:Enters P f)
  (h:∀ (S:Nat → Prop) (w:World) (vs:Array Value),SOk w S → vs.size=args.length → (∀ (j:Nat) (v:Value) (av:AV),vs[j]? = some v → args[j]? = some av → RT w S v av) → Calls P f vs w fun e w'=>e=.returned v ∧ Below w.heap.size w w'):ADet P f args (val v):=
 ⟨he,fun S w vs h1 h2 h3=>(h S w vs h1 h2 h3).mono fun e w' ⟨h4,h5⟩=>⟨v,fun _=>undef,val v,rfl,val_ok v,h4,⟨belowX h5,fun id o h=>(by cases h),fun id id' o o' g h=>(by cases h),fun b hb=>hb.elim⟩,.tree (.c v)⟩⟩
theorem ADet.calls {P:Program} {f:FuncId} {args:List AV} {v:Value} (h:ADet P f args (val v)) {w:World} {vs:Array Value} (h2:vs.size=args.length) (h3:∀ (j:Nat) (v:Value) (av:AV),vs[j]? = some v → args[j]? = some av → RT w (fun b=>b<w.heap.size) v av) (hA:Amb w:=by exact amb_any _) :
  Calls P f vs w fun e w'=>e=.returned v ∧ Below w.heap.size w w':=
 (h.2 _ w vs ⟨fun b hb=>hb,hA,fun b hb=>Nat.lt_of_lt_of_le hb hA.le⟩ h2 h3).mono fun e w' ⟨v',L,R,h0,_,h4,h5,h6⟩=>by
  subst h0
  obtain rfl:=h6.c_inv
  exact ⟨h4,h5.below.below fun b hb=>hb⟩
def own (e:TypeId) (sz:Nat) (rows:List (List AV)):Res:=⟨.osl 0,[(0,some (.row e sz rows))],1⟩
theorem own_ok (e:TypeId) (sz:Nat) (rows:List (List AV)):(own e sz rows).Ok:=by
 refine ⟨fun id o h=>?_,Nat.zero_lt_one⟩
 simp only [own,ATab.get_cons] at h
 split at h
 ·rename_i e
  cases h
  subst e
  exact ⟨Nat.zero_lt_one,trivial⟩
 ·cases h
theorem aGives_own {e:TypeId} {sz:Nat} {rows:List (List AV)} {st:ASt} {id:Nat}:st.tab.get id=some (.row e sz rows) → aGives (own e sz rows) st (.osl id):=fun h=>
 ⟨[id],by simp,rfl,⟨Nat.zero_lt_one,⟨e,sz,rows,rfl⟩,h⟩,trivial⟩
theorem retV {Post:Res → Prop} {st:ASt} {v:Value} (h:Post (val v)):∃ R,Post R ∧ R.Ok ∧ aGives R st (.c v):=⟨_,h,val_ok v,gives_val rfl⟩
theorem retO {Post:Res → Prop} {st:ASt} {id:Nat} {e:TypeId} {sz:Nat} {rows:List (List AV)} (hg:st.tab.get id=some (.row e sz rows)) (h:Post (own e sz rows)):∃ R,Post R ∧ R.Ok ∧ aGives R st (.osl id):=⟨_,h,own_ok ..,aGives_own hg⟩
theorem callP {u:Option (Nat × List Nat)} {P:Program} {st:ASt} {g:FuncId} {args:List AV} {K:AV → ASt → Prop} {Post:Res → Prop} (h:ARel P g (args.map (dref st.tab)) Post) (hk:∀ R,Post R → (roL args ∨ (R.r.plain ∧ R.tab.plain)) ∧ K (R.r.shift st.next) { st with tab:=R.tab.shift st.next ++ st.tab,next:=st.next+R.n }):aCall u P st g args K:=.inl (.inl ⟨Post,h,hk⟩)
theorem callR {u:Option (Nat × List Nat)} {P:Program} {st:ASt} {g:FuncId} {args:List AV} {K:AV → ASt → Prop} {R:Res} (h:ADet P g (args.map (dref st.tab)) R) (ho:roL args ∨ (R.r.plain ∧ R.tab.plain)) (hk:K (R.r.shift st.next) { st with tab:=R.tab.shift st.next ++ st.tab,next:=st.next+R.n }):aCall u P st g args K:=
 .inl (.inl ⟨_,h,fun R' e=>by subst e;exact ⟨ho,hk⟩⟩)
theorem callV {u:Option (Nat × List Nat)} {P:Program} {st:ASt} {g:FuncId} {args:List AV} {dst:Option Nat} {K:ASt → Prop} {v:Value} (h:ADet P g (args.map (dref st.tab)) (val v)) (hk:K (st.put dst (.c v))):aCall u P st g args (aK2 dst K):=
 callR h (.inr ⟨trivial,trivial⟩) hk
def ruA:=(And.intro (And.intro (And.intro (And.intro (And.intro (And.intro (And.intro @aCode_skip @aCode_regF) (And.intro @aCode_regT @aCode_seq)) (And.intro (And.intro @aCode_cond @aCode_block) (And.intro @aCode_loop @aCode_exit))) (And.intro (And.intro (And.intro @aCode_ret @aThen_normal) (And.intro @aThen_exit @aThen_ret)) (And.intro (And.intro @aInBlock_normal @aInBlock_ret) (And.intro @aInBlock_exit (And.intro @aCond_bool @aSkip_eq))))) (And.intro (And.intro (And.intro (And.intro @aKs_eq @aK_eq) (And.intro @aK2_eq @aFn_eq)) (And.intro (And.intro @aFn_clo @aFnB_eq) (And.intro @aFnB_clo @aFnB_bfn))) (And.intro (And.intro (And.intro @aCallF_eq @aCallB_eq) (And.intro @aCallE_eq @aCallD_eq)) (And.intro (And.intro @aOps_nil @aOps_plain) (And.intro @aOps_guard (And.intro @aDops_nil @aDops_plain)))))) (And.intro (And.intro (And.intro (And.intro (And.intro @aDops_guard @aGuardD_eq) (And.intro @aGuardV_bool @aGuardV_undef)) (And.intro (And.intro @aGd_tt @aGd_ff) (And.intro @aGd_tf @aGd_ft))) (And.intro (And.intro (And.intro @aIf_true @aIf_false) (And.intro @aSel_true @aSel_false)) (And.intro (And.intro @aPickK_bool @aOp_move) (And.intro @aOp_assign (And.intro @aOp_pick @aOp_load))))) (And.intro (And.intro (And.intro (And.intro @aOp_field @aOp_index) (And.intro @aOp_bin @aOp_un)) (And.intro (And.intro @aOp_extract @aOp_conv) (And.intro @aOp_len (And.intro @aOp_append @aOp_call)))) (And.intro (And.intro (And.intro @aOp_makeFunc @aOp_makeFuncB) (And.intro @aOp_box @aOp_alloc)) (And.intro (And.intro @aOp_store @aOp_buildSlice) (And.intro @aOp_makeSlice (And.intro @aOp_build @aDop_move))))))) (And.intro (And.intro (And.intro (And.intro (And.intro (And.intro @aDop_assign @aDop_pick) (And.intro @aDop_load @aDop_field)) (And.intro (And.intro @aDop_index @aDop_bin) (And.intro @aDop_un @aDop_conv))) (And.intro (And.intro (And.intro @aDop_len @aDop_call) (And.intro @aAppend_o @aAppend_co)) (And.intro (And.intro @aAppend_cs @aAppend_cc) (And.intro @aGives_val (And.intro @aRet_r @aRetR_r))))) (And.intro (And.intro (And.intro (And.intro @aPops_nil @aPops_plain) (And.intro @aHeldH_nil @aHeldH_cons)) (And.intro (And.intro @aHeld_nil @aHeld_take) (And.intro @aHeld_exec (And.intro @aHeld_two @aHeld_three)))) (And.intro (And.intro (And.intro @aHeldL_plain @aHeldL_guard) (And.intro @aHeldT_plain @aHeldT_guard)) (And.intro (And.intro @aTakeY_eq @aTakeN_eq) (And.intro @aTakeP_build (And.intro @aTakeP_move @aTakeP_pick)))))) (And.intro (And.intro (And.intro (And.intro (And.intro @aTakeP_load @aTakeP_field) (And.intro @aTakeP_index @aTakeP_bin)) (And.intro (And.intro @aTakeP_un @aTakeP_extract) (And.intro @aTakeP_call @aHeldE_eq))) (And.intro (And.intro (And.intro @aHeldE_guard @aExecK_eq) (And.intro @aExec_assign @aExec_load)) (And.intro (And.intro @aExec_store @aExec_append) (And.intro @aExec_call (And.intro @aExec_buildSlice @aPure_move))))) (And.intro (And.intro (And.intro (And.intro @aPure_pick @aPure_load) (And.intro @aPure_field @aPure_index)) (And.intro (And.intro @aPure_bin @aPure_un) (And.intro @aPure_extract (And.intro @aPure_len @aOp_slice)))) (And.intro (And.intro (And.intro @aDop_slice @aExec_makeSlice) (And.intro @aOp_max @aOp_min)) (And.intro (And.intro @aExec_alloc @aOp_nilChk) (And.intro @aDop_nilChk (And.intro @aRetH_r @aRetHA_r))))))))
def ruB:=(And.intro (And.intro (And.intro (And.intro (And.intro @ATab.get_cons (And.intro @Nat.zero_add @Nat.add_zero)) (And.intro (And.intro @List.getElem?_cons_zero.{0} @List.getElem?_cons_succ.{0}) (And.intro @List.getElem?_toArray.{0} @Option.bind_some.{0,0}))) (And.intro (And.intro (And.intro @List.map_cons.{0,0} @List.map_nil.{0,0}) (And.intro @List.length_cons.{0} @List.length_nil.{0})) (And.intro (And.intro @List.drop_succ_cons.{0} @List.drop_zero.{0}) (And.intro @List.take_succ_cons.{0} @List.take_zero.{0})))) (And.intro (And.intro (And.intro (And.intro @List.headD_cons.{0} @List.length_map.{0,0}) (And.intro @Bool.not_true @Bool.not_false)) (And.intro (And.intro @true_and @and_true) (And.intro @Option.getD_some.{0} @List.cons_append.{0}))) (And.intro (And.intro (And.intro @List.nil_append.{0} @List.append_nil.{0}) (And.intro @Nat.succ_ne_self @Nat.one_ne_zero)) (And.intro (And.intro @AV.c.injEq @Value.bool.injEq) (And.intro @Value.int.injEq @false_implies))))) (And.intro (And.intro (And.intro (And.intro (And.intro @decide_eq_true_eq @decide_eq_false_iff_not) (And.intro @Int.natCast_nonneg @Int.ofNat_lt)) (And.intro (And.intro @Int.ofNat_le @Int.toNat_natCast) (And.intro @not_false_eq_true @not_true_eq_false))) (And.intro (And.intro (And.intro @Nat.le_refl @false_and) (And.intro @and_false @Nat.succ_ne_zero)) (And.intro (And.intro @imp_self @true_implies) (And.intro @decide_true @decide_false)))) (And.intro (And.intro (And.intro (And.intro @List.set_cons_zero.{0} @List.set_cons_succ.{0}) (And.intro @Nat.zero_le @List.mem_cons.{0})) (And.intro (And.intro @List.not_mem_nil.{0} @or_false) (And.intro @List.flatMap_cons.{0,0} @List.flatMap_nil.{0,0}))) (And.intro (And.intro (And.intro @Option.map_some.{0,0} @Option.map_none.{0,0}) (And.intro @Option.isSome_some.{0} @Option.isSome_none.{0})) (And.intro (And.intro @Int.le_refl @List.take_length.{0}) (And.intro @true_or @or_true))))))
def ruW:=(And.intro (And.intro (And.intro (And.intro @ATab.get_cons @and_true) (And.intro @true_and (And.intro @AV.c.injEq @Value.int.injEq))) (And.intro (And.intro @Value.bool.injEq @Bool.not_true) (And.intro @Bool.not_false (And.intro @Nat.succ_ne_self @Nat.one_ne_zero)))) (And.intro (And.intro (And.intro @Nat.succ_ne_zero @not_true_eq_false) (And.intro @not_false_eq_true (And.intro @Int.natCast_nonneg @List.map_cons.{0,0}))) (And.intro (And.intro @List.map_nil.{0,0} (And.intro @List.cons_append.{0} @List.nil_append.{0})) (And.intro @List.append_nil.{0} (And.intro @decide_true @decide_false)))))
def ruX:=And.intro ruA (And.intro ruB (And.intro (And.intro (And.intro (And.intro (And.intro (And.intro (And.intro (And.intro @aEv.eq_1 (And.intro @aEv.eq_2 @aEv.eq_3)) (And.intro (And.intro @aEv.eq_4 @aTake.eq_1) (And.intro @aLoad.eq_1 @aLoad.eq_2))) (And.intro (And.intro @aLoad.eq_3 (And.intro @aField.eq_1 @aIndex.eq_1)) (And.intro (And.intro @aIndex.eq_2 @aIndex.eq_3) (And.intro @aIndex.eq_4 @aIndex.eq_5)))) (And.intro (And.intro (And.intro @aLen.eq_1 (And.intro @aLen.eq_2 @aLen.eq_3)) (And.intro (And.intro @aLen.eq_4 @aLen.eq_5) (And.intro @aBin.eq_1 @aBin.eq_2))) (And.intro (And.intro @aBin.eq_3 (And.intro @aBin.eq_4 @bin2.eq_1)) (And.intro (And.intro @bin2.eq_2 @bin2.eq_3) (And.intro @bin2.eq_4 @bin2.eq_5))))) (And.intro (And.intro (And.intro (And.intro @bin2.eq_6 (And.intro @bin2.eq_7 @bin2.eq_8)) (And.intro (And.intro @bin2.eq_9 @bin2.eq_10) (And.intro @bin2.eq_11 @bin2.eq_12))) (And.intro (And.intro @bin2.eq_13 (And.intro @bin2.eq_14 @bin2.eq_15)) (And.intro (And.intro @bin2.eq_16 @bin2.eq_17) (And.intro @bin2.eq_18 @bin2.eq_19)))) (And.intro (And.intro (And.intro @bin2.eq_20 (And.intro @bin2.eq_21 @bin2.eq_22)) (And.intro (And.intro @bin2.eq_23 @bin2.eq_24) (And.intro @bin2.eq_25 @bin2.eq_26))) (And.intro (And.intro @bin2.eq_27 (And.intro @bin2.eq_28 @aUn.eq_1)) (And.intro (And.intro @aUn.eq_2 @un1.eq_1) (And.intro @un1.eq_2 @un1.eq_3)))))) (And.intro (And.intro (And.intro (And.intro (And.intro @un1.eq_4 (And.intro @un1.eq_5 @aExtract.eq_1)) (And.intro (And.intro @aExtract.eq_2 @ASt.get.eq_1) (And.intro @aget.eq_1 @aget.eq_2))) (And.intro (And.intro @ASt.put.eq_1 (And.intro @ASt.put.eq_2 @aStore.eq_1)) (And.intro (And.intro @aStore.eq_2 @aBox.eq_1) (And.intro @aAppend0.eq_1 @aBuildSlice.eq_1)))) (And.intro (And.intro (And.intro @aBuild.eq_1 (And.intro @aFill.eq_1 @aFill.eq_2)) (And.intro (And.intro @oneParts.eq_1 @oneParts.eq_2) (And.intro @allC.eq_1 @allC.eq_2))) (And.intro (And.intro @allC.eq_3 (And.intro @aBinS.eq_1 @aBinS.eq_2)) (And.intro (And.intro @yv.eq_1 @yv.eq_2) (And.intro @aCells.eq_1 @aCells.eq_2))))) (And.intro (And.intro (And.intro (And.intro @aCells.eq_3 (And.intro @oneC.eq_1 @oneC.eq_2)) (And.intro (And.intro @oneC.eq_3 @oneC.eq_4) (And.intro @oneC.eq_5 @oneC.eq_6))) (And.intro (And.intro @oneC.eq_7 (And.intro @oneC.eq_8 @oneCL.eq_1)) (And.intro (And.intro @oneCL.eq_2 @treeC.eq_1) (And.intro @treeC.eq_2 @treeC.eq_3)))) (And.intro (And.intro (And.intro @treeC.eq_4 (And.intro @treeC.eq_5 @treeC.eq_6)) (And.intro (And.intro @treeC.eq_7 @treeL.eq_1) (And.intro @treeL.eq_2 @treeML.eq_1))) (And.intro (And.intro @treeML.eq_2 (And.intro @treeM_c @treeM_sl)) (And.intro (And.intro @aLit.eq_1 @aLit.eq_2) (And.intro @aDst.eq_1 @aDst.eq_2))))))) (And.intro (And.intro (And.intro (And.intro (And.intro (And.intro @aDst.eq_3 (And.intro @aSrc.eq_1 @aSrc.eq_2)) (And.intro (And.intro @aSrc.eq_3 @aSrc.eq_4) (And.intro @appTab.eq_1 @appTab.eq_2))) (And.intro (And.intro @Go.Value.cells.eq_1 (And.intro @Go.Value.cells.eq_2 @Go.Value.oneCell'.eq_1)) (And.intro (And.intro @Go.Value.oneCell'.eq_2 @Go.Value.oneCell'.eq_3) (And.intro @envOf.eq_1 @envOf.eq_2)))) (And.intro (And.intro (And.intro @aResL.eq_1 (And.intro @aResL.eq_2 @aResL.eq_3)) (And.intro (And.intro @aOne.eq_1 @aOne.eq_2) (And.intro @dref.eq_1 @dref.eq_2))) (And.intro (And.intro @dref.eq_3 (And.intro @dref.eq_4 @dref.eq_5)) (And.intro (And.intro @dref.eq_6 @dref.eq_7) (And.intro @dref.eq_8 @dref.eq_9))))) (And.intro (And.intro (And.intro (And.intro @dref.eq_10 (And.intro @dref1.eq_1 @dref1.eq_2)) (And.intro (And.intro @dref1.eq_3 @dref1.eq_4) (And.intro @dref1.eq_5 @dref1.eq_6))) (And.intro (And.intro @dref1.eq_7 (And.intro @dref1.eq_8 @dref1.eq_9)) (And.intro (And.intro @dref1.eq_10 @dref2.eq_1) (And.intro @dref2.eq_2 @dref2.eq_3)))) (And.intro (And.intro (And.intro @dref2.eq_4 (And.intro @dref2.eq_5 @dref2.eq_6)) (And.intro (And.intro @dref2.eq_7 @dref2.eq_8) (And.intro @dref2.eq_9 @dref2.eq_10))) (And.intro (And.intro @aExecS.eq_1 (And.intro @aExecS.eq_2 @aStoreB.eq_1)) (And.intro (And.intro @aTakes.eq_1 @aTakes.eq_2) (And.intro @aTakeE.eq_1 @aTakeE.eq_2)))))) (And.intro (And.intro (And.intro (And.intro (And.intro @aElder.eq_1 (And.intro @aElder.eq_2 @aFrom.eq_1)) (And.intro (And.intro @aFrom.eq_2 @aFrom.eq_3) (And.intro @aFresh.eq_1 @aFresh.eq_2))) (And.intro (And.intro @isLoad.eq_1 (And.intro @isLoad.eq_2 @aBuildSlice1.eq_1)) (And.intro (And.intro @mkO.eq_1 @mkO.eq_2) (And.intro @aDstN.eq_1 @aDstN.eq_2)))) (And.intro (And.intro (And.intro @aDstN.eq_3 (And.intro @aSrcN.eq_1 @aSrcN.eq_2)) (And.intro (And.intro @aLitN.eq_1 @aLitN.eq_2) (And.intro @dref0.eq_1 @dref0.eq_2))) (And.intro (And.intro @dref0.eq_3 (And.intro @dref0.eq_4 @dref0.eq_5)) (And.intro (And.intro @stripA.eq_1 @stripA.eq_2) (And.intro @stripA.eq_3 @stripA.eq_4))))) (And.intro (And.intro (And.intro (And.intro @frzs.eq_1 (And.intro @frzs.eq_2 @frz1.eq_1)) (And.intro (And.intro @ownIds.eq_1 @ownIds.eq_2) (And.intro @ownIds.eq_3 @AV.frz.eq_1))) (And.intro (And.intro @AV.frz.eq_2 (And.intro @AV.frz.eq_3 @AV.frz.eq_4)) (And.intro (And.intro @AV.frz.eq_5 @AV.frz.eq_6) (And.intro @AV.frz.eq_7 @AV.frz.eq_8)))) (And.intro (And.intro (And.intro @AV.frz.eq_9 (And.intro @AV.frz.eq_10 @AV.frzL.eq_1)) (And.intro (And.intro @AV.frzL.eq_2 @frzEnv.eq_1) (And.intro @frzEnv.eq_2 @AV.shift.eq_1))) (And.intro (And.intro (And.intro @AV.shift.eq_2 @AV.shift.eq_3) (And.intro @AV.shift.eq_4 @AV.shift.eq_5)) (And.intro (And.intro @AV.shift.eq_6 @AV.shift.eq_7) (And.intro @AV.shift.eq_8 @AV.shift.eq_9)))))))) (And.intro (And.intro (And.intro (And.intro (And.intro (And.intro (And.intro @AV.shift.eq_10 (And.intro @AV.shiftL.eq_1 @AV.shiftL.eq_2)) (And.intro (And.intro @aFieldV.eq_1 @aSliceW.eq_1) (And.intro @aSliceW.eq_2 @aSliceO.eq_1))) (And.intro (And.intro @aSliceO.eq_2 (And.intro @aSlice.eq_1 @aSlice.eq_2)) (And.intro (And.intro @aSlice.eq_3 @aSliceR.eq_1) (And.intro @aSliceR.eq_2 @aSliceS.eq_1)))) (And.intro (And.intro (And.intro @aSliceS.eq_2 (And.intro @aBd.eq_1 @aBd.eq_2)) (And.intro (And.intro @aBd.eq_3 @aMax.eq_1) (And.intro @aMax.eq_2 @aMax.eq_3))) (And.intro (And.intro @frzAVs.eq_1 (And.intro @frzAVs.eq_2 @frzAV.eq_1)) (And.intro (And.intro @frzTab.eq_1 @frzTab.eq_2) (And.intro @AObj.frz.eq_1 @AObj.frz.eq_2))))) (And.intro (And.intro (And.intro (And.intro @AObj.frz.eq_3 (And.intro @AObj.frz.eq_4 @AObj.frz.eq_5)) (And.intro (And.intro @aMM.eq_1 @aMM.eq_2) (And.intro @aNilS.eq_1 @aNilS.eq_2))) (And.intro (And.intro @aNilS.eq_3 (And.intro @aMay.eq_1 @aNil.eq_1)) (And.intro (And.intro @aNil.eq_2 @aNil.eq_3) (And.intro @aLenM.eq_1 @aClear.eq_1)))) (And.intro (And.intro (And.intro @aLookup.eq_1 (And.intro @aMapUpd.eq_1 @aMapPut.eq_1)) (And.intro (And.intro @keyV.eq_1 @keyV.eq_2) (And.intro @keyV.eq_3 @aLookR.eq_1))) (And.intro (And.intro @aLookR.eq_2 (And.intro @false_or @aExecU.eq_1)) (And.intro (And.intro @aExecU.eq_2 @aConv.eq_def) (And.intro @aMake.eq_def @eq_self.{1})))))) (And.intro (And.intro (And.intro (And.intro (And.intro @ne_eq.{1} (And.intro @implies_true.{1} @implies_true.{0})) (And.intro (And.intro @forall_const.{1} @forall_const.{0}) (And.intro @aLookG.eq_1 @tyA_32))) (And.intro (And.intro @tyS_32 (And.intro @tyY_34 @tyA_5)) (And.intro (And.intro @tyS_5 @tyI_5) (And.intro @tyI_3 @tyE_37)))) (And.intro (And.intro (And.intro @tyK_3 (And.intro @tyE_40 @tyF_32_6)) (And.intro (And.intro @tyA_27 @tyS_27) (And.intro @tyE_27 @tyF_32_7))) (And.intro (And.intro @tyA_28 (And.intro @tyS_28 @tyE_28)) (And.intro (And.intro @tyF_32_4 @tyA_25) (And.intro @tyS_25 @tyE_25))))) (And.intro (And.intro (And.intro (And.intro @tyF_32_5 (And.intro @tyA_26 @tyS_26)) (And.intro (And.intro @tyE_26 @tyF_32_0) (And.intro @tyA_22 @tyS_22))) (And.intro (And.intro @tyE_22 (And.intro @tyF_32_2 @tyF_32_3)) (And.intro (And.intro @tyA_24 @tyS_24) (And.intro @tyE_24 @tyF_32_8)))) (And.intro (And.intro (And.intro @tyA_29 (And.intro @tyS_29 @tyE_29)) (And.intro (And.intro @tyF_32_9 @tyA_30) (And.intro @tyS_30 @tyE_30))) (And.intro (And.intro @tyF_32_1 (And.intro @tyA_23 @tyS_23)) (And.intro (And.intro @tyE_23 @tyK_23) (And.intro @tyF_48_2 @tyA_46))))))) (And.intro (And.intro (And.intro (And.intro (And.intro (And.intro @tyS_46 (And.intro @tyE_46 @tyF_50_3)) (And.intro (And.intro @tyF_53_3 @tyA_51) (And.intro @tyS_51 @tyE_51))) (And.intro (And.intro @tyB_32 (And.intro @tyF_63_0 @tyA_3)) (And.intro (And.intro @tyS_3 @tyB_66) (And.intro @tyZ_69 @tyS_69)))) (And.intro (And.intro (And.intro @tyA_69 (And.intro @tyA_63 @tyS_63)) (And.intro (And.intro @tyZ_63 @tyF_63_2) (And.intro @tyS_2 @tyR_37))) (And.intro (And.intro @tyF_66_0 (And.intro @tyA_33 @tyS_33)) (And.intro (And.intro @tyR_40 @tyF_63_1) (And.intro @tyF_78_1 @tyF_80_1))))) (And.intro (And.intro (And.intro (And.intro @tyA_53 (And.intro @tyS_53 @tyZ_53)) (And.intro (And.intro @tyF_53_1 @tyF_53_2) (And.intro @tyA_48 @tyS_48))) (And.intro (And.intro @tyZ_48 (And.intro @tyF_48_0 @tyF_48_1)) (And.intro (And.intro @tyA_50 @tyS_50) (And.intro @tyZ_50 @tyF_50_1)))) (And.intro (And.intro (And.intro @tyF_50_2 (And.intro @tyF_85_0 @tyF_85_1)) (And.intro (And.intro @tyF_53_4 @tyR_51) (And.intro @tyR_23 @tyR_90))) (And.intro (And.intro @tyQ_90 (And.intro @tyE_90 @tyA_4)) (And.intro (And.intro @tyS_4 @tyR_30) (And.intro @tyA_93 @tyS_93)))))) (And.intro (And.intro (And.intro (And.intro (And.intro @tyQ_23 (And.intro @tyB_63 @tyF_69_0)) (And.intro (And.intro @tyA_2 @tyB_69) (And.intro @tyF_110_0 @tyB_116))) (And.intro (And.intro @tyR_106 (And.intro @tyA_110 @tyS_110)) (And.intro (And.intro @tyF_110_1 @tyF_108_0) (And.intro @tyF_108_1 @tyF_110_2)))) (And.intro (And.intro (And.intro @tyZ_93 (And.intro @tyB_93 @tyA_78)) (And.intro (And.intro @tyS_78 @tyZ_78) (And.intro @tyA_80 @tyS_80))) (And.intro (And.intro @tyZ_80 (And.intro @tyA_85 @tyS_85)) (And.intro (And.intro @tyZ_85 @tyZ_30) (And.intro @tyI_33 @tyQ_51))))) (And.intro (And.intro (And.intro (And.intro @tyF_69_3 (And.intro @tyF_69_4 @tyF_69_1)) (And.intro (And.intro @tyF_69_2 @tyK_4) (And.intro @tyE_106 @tyF_110_3))) (And.intro (And.intro @tyF_110_4 (And.intro @tyE_144 @tyA_108)) (And.intro (And.intro @tyS_108 @tyZ_108) (And.intro @tyZ_152 @tyS_152)))) (And.intro (And.intro (And.intro @tyF_152_2 (And.intro @tyF_93_0 @tyF_152_3)) (And.intro (And.intro @tyF_152_0 @tyZ_4) (And.intro @tyF_93_1 @tyF_116_0))) (And.intro (And.intro (And.intro @tyZ_110 @tyR_144) (And.intro @tyF_152_1 @tyA_152)) (And.intro (And.intro @tyB_152 @tyF_50_4) (And.intro @tyZ_3 @tyZ_2))))))))))
theorem kf {a b:Prop} (x:a) (y:b):a ∧ b:=⟨x,y⟩
theorem go {a b:Prop} (hb:b) (h:a=b:=by simp -implicitDefEqProofs (maxSteps:=5000000) only [ruX,↓reduceIte,reduceCtorEq,Nat.reduceLT,Nat.reduceEqDiff,Nat.reduceAdd,Nat.reduceMul,Nat.reduceSub,Nat.reduceLeDiff,Nat.reduceBEq] <;> exact rfl):a:=Eq.mpr h hb
theorem ge {E a b:Prop} (e:E) (hb:b) (h:E → a=b:=by intro e;simp -implicitDefEqProofs (maxSteps:=5000000) only [ruX,↓reduceIte,reduceCtorEq,Nat.reduceLT,Nat.reduceEqDiff,Nat.reduceAdd,Nat.reduceMul,Nat.reduceSub,Nat.reduceLeDiff,Nat.reduceBEq,e] <;> exact rfl):a:=Eq.mpr (h e) hb
theorem sp {p a b:Prop} (ha:a) (hb:b) (h:a → b → p:=by with_reducible first | exact aIf_split | exact aSel_split | exact aGd_split):p:=h ha hb
theorem wC {st:ASt} {n nx:Nat} {env:List (Nat × AV)} {tab:ATab} (h:st.n=n ∧ (envIn st env ∧ tabIn st tab) ∧ envLt nx env ∧ tabLt nx tab:=by (first | ((simp only [envIn,tabIn,envLt,tabLt,AObj.lt,AV.lt,AV.ltL,ruW,ASt.get,aget,ASt.put,↓reduceIte,reduceCtorEq,Nat.reduceLT,Nat.reduceEqDiff,Nat.reduceAdd,Nat.reduceLeDiff,eq_self,implies_true]) <;> (repeat' apply And.intro) <;> first | (rw [wrapK (by omega)];done) | (simp;done) | omega) | fail)):Weak st ⟨n,env,tab,nx⟩:=weak_cut1 h
theorem wE {st:ASt} {n nx:Nat} {env:List (Nat × AV)} {tab:ATab} {E:Prop} (e:E) (h:E → st.n=n ∧ (envIn st env ∧ tabIn st tab) ∧ envLt nx env ∧ tabLt nx tab:=by intro e;(first | ((simp only [envIn,tabIn,envLt,tabLt,AObj.lt,AV.lt,AV.ltL,ruW,ASt.get,aget,ASt.put,↓reduceIte,reduceCtorEq,Nat.reduceLT,Nat.reduceEqDiff,Nat.reduceAdd,Nat.reduceLeDiff,eq_self,implies_true,e]) <;> (repeat' apply And.intro) <;> first | (rw [wrapK (by omega)];done) | (simp;done) | omega) | fail)):Weak st ⟨n,env,tab,nx⟩:=weak_cut1 (h e)
theorem wR {st:ASt} {n nx:Nat} {env:List (Nat × AV)} {tab:ATab} (ids:List Nat) (h0:ids.Nodup:=by decide) (h:st.n=n ∧ (envInR st ids env ∧ tabInR st ids tab) ∧ envLt nx env ∧ tabLt nx tab:=by (first | ((simp only [envInR,tabInR,envLt,tabLt,AObj.lt,AV.lt,AV.ltL,AV.ren,AV.renL,AObj.ren,List.getD_cons_zero,List.getD_cons_succ,List.length_cons,List.length_nil,ruW,ASt.get,aget,ASt.put,↓reduceIte,reduceCtorEq,Nat.reduceLT,Nat.reduceEqDiff,Nat.reduceAdd,Nat.reduceLeDiff,eq_self,implies_true]) <;> (repeat' apply And.intro) <;> first | (rw [wrapK (by omega)];done) | (simp;done) | omega) | fail)):Weak st ⟨n,env,tab,nx⟩:=weak_ren1 ids ⟨h0,h⟩
theorem wS {st:ASt} {n nx:Nat} {env:List (Nat × AV)} {tab:ATab} {E:Prop} (ids:List Nat) (e:E) (h0:ids.Nodup:=by decide) (h:E → st.n=n ∧ (envInR st ids env ∧ tabInR st ids tab) ∧ envLt nx env ∧ tabLt nx tab:=by intro e;(first | ((simp only [envInR,tabInR,envLt,tabLt,AObj.lt,AV.lt,AV.ltL,AV.ren,AV.renL,AObj.ren,List.getD_cons_zero,List.getD_cons_succ,List.length_cons,List.length_nil,ruW,ASt.get,aget,ASt.put,↓reduceIte,reduceCtorEq,Nat.reduceLT,Nat.reduceEqDiff,Nat.reduceAdd,Nat.reduceLeDiff,eq_self,implies_true,e]) <;> (repeat' apply And.intro) <;> first | (rw [wrapK (by omega)];done) | (simp;done) | omega) | fail)):Weak st ⟨n,env,tab,nx⟩:=weak_ren1 ids ⟨h0,h e⟩
theorem rI {I:ASt → Prop} {μ:ASt → Nat} {n:Nat} {st st':ASt} (hw:Weak st st') (hI:I st') (hm:μ st'<n:=by simp only [slotN,ruW,ASt.get,aget,ASt.put,↓reduceIte,reduceCtorEq,Nat.reduceLT,Nat.reduceEqDiff,Nat.reduceAdd,Nat.reduceLeDiff,eq_self,implies_true];omega):aRound I μ n st:=roundI hw hI hm
end
section
open Go.RowKit
theorem enters_of {P : Program} {f : FuncId} {fn : Func} {c : Code} (hf : P.funcs[f]? = some fn) (hb : fn.body = some c) (hname : (fn.name == "runtime.NumGoroutine") = false) : Enters P f := fun args w => by
 have : ¬ fn.name = "runtime.NumGoroutine" := by simpa using hname
 simp [callFunc,Sem.run_bind,hf,this,hb]
theorem rtc {w:World} {S:Nat → Prop} {v u:Value} (h:RT w S v (.c u)):v=u:=by cases h;rfl
theorem dref_tree {tab:ATab} {a:AV} (h:treeC a):dref tab a=a:=by
 cases a <;> first | rfl | exact h.elim
theorem drefs_tree {tab:ATab}:∀ {l:List AV},treeL l → l.map (dref tab)=l
 | [],_=>rfl
 | a :: l,h=>by rw [List.map_cons,dref_tree h.1,drefs_tree h.2]
theorem dref2s_tree {tab:ATab}:∀ {l:List AV},treeL l → l.map (dref2 tab)=l
 | [],_=>rfl
 | a :: l,h=>by
  have h1:dref2 tab a=a:=by
   have:=h.1
   cases a <;> first | rfl | exact this.elim
  rw [List.map_cons,h1,dref2s_tree h.2]
theorem ltL_tree {nx:Nat}:∀ {l:List AV},treeL l → AV.ltL nx l
 | [],_=>trivial
 | a :: l,h=>⟨by
   have:=h.1
   cases a <;> first | trivial | exact this.elim,ltL_tree h.2⟩
theorem callClo {u:Option (Nat × List Nat)} {P:Program} {st:ASt} {g:FuncId} {args caps:List AV} {dst:Option Nat} {K:ASt → Prop} {v:Value} (ht:treeL caps) (h:ADet P g (args.map (dref st.tab) ++ caps) (val v)) (hk:K (st.put dst (.c v))):aCall u P st g (args ++ caps) (aK2 dst K):=
 callV (by rw [List.map_append,drefs_tree ht];exact h) hk
theorem callT {u:Option (Nat × List Nat)} {P:Program} {st:ASt} {g:FuncId} {args:List AV} {K:AV → ASt → Prop} {r:AV} (h:ADet P g (args.map (dref st.tab)) ⟨r,[],0⟩) (ho:roL args ∨ r.plain) (hk:K (r.shift st.next) st):aCall u P st g args K:=
 callR h (ho.imp id fun h=>⟨h,trivial⟩) hk
theorem take_snoc {α β:Type} (f:α → β) (l:List α) {k:Nat} (h:k<l.length):(l.take (k+1)).map f=(l.take k).map f ++ [f l[k]]:=by
 rw [List.take_add_one,List.getElem?_eq_getElem h,List.map_append]
 rfl
theorem callO {u:Option (Nat × List Nat)} {P:Program} {st:ASt} {g:FuncId} {args:List AV} {K:AV → ASt → Prop} {e:TypeId} {sz:Nat} {rows:List (List AV)} (h:ADet P g (args.map (dref st.tab)) (own e sz rows)) (ho:roL args ∨ ∀ row ∈ rows,∀ av ∈ row,av.plain) (hk:K (.osl st.next) ⟨st.n,st.env,(st.next,some (.row e sz rows)) :: st.tab,st.next+1⟩):aCall u P st g args K:=
 callR h (ho.imp id fun h=>⟨trivial,h,trivial⟩) (by
  have e1:(own e sz rows).r.shift st.next=.osl st.next:=by simp [own,AV.shift]
  have e2:(own e sz rows).tab.shift st.next=[(st.next,some (.row e sz rows))]:=by simp [own,ATab.shift,AObj.shift]
  rw [e1,e2]
  exact hk)
theorem ints_plain {l:List Int}:∀ row ∈ l.map (fun n=>[eI n]),∀ av ∈ row,av.plain:=fun row hr av ha=>by
 obtain ⟨n,_,rfl⟩:=List.mem_map.1 hr
 simp at ha
 subst ha
 trivial
theorem fold_snoc {α β:Type} (f:β → α → β) (b:β) (l:List α) {k:Nat} (h:k<l.length):(l.take (k+1)).foldl f b=f ((l.take k).foldl f b) l[k]:=by
 rw [List.take_add_one,List.getElem?_eq_getElem h,List.foldl_append]
 rfl
inductive Fits0:AV → AV → Prop
 | refl (a:AV):Fits0 a a
 | nil (sz:Nat):Fits0 (.c (.slice none 0 0)) (.sl sz [])
def RowFit:List AV → List AV → Prop
 | [],[]=>True
 | a :: l,b :: l'=>Fits0 a b ∧ RowFit l l'
 | _,_=>False
def RowsFit:List (List AV) → List (List AV) → Prop
 | [],[]=>True
 | a :: l,b :: l'=>RowFit a b ∧ RowsFit l l'
 | _,_=>False
inductive Fits1:AV → AV → Prop
 | refl (a:AV):Fits1 a a
 | nil (sz:Nat):Fits1 (.c (.slice none 0 0)) (.sl sz [])
 | rows {sz:Nat} {r r':List (List AV)} (h:RowsFit r r'):Fits1 (.sl sz r) (.sl sz r')
def FitsL:List AV → List AV → Prop
 | [],[]=>True
 | a :: l,b :: l'=>Fits1 a b ∧ FitsL l l'
 | _,_=>False
inductive FitsA:AV → AV → Prop
 | one {a b:AV} (h:Fits1 a b):FitsA a b
 | agg {l l':List AV} (h:FitsL l l'):FitsA (.agg l) (.agg l')
def FitsAs:List AV → List AV → Prop
 | [],[]=>True
 | a :: l,b :: l'=>FitsA a b ∧ FitsAs l l'
 | _,_=>False
theorem Fits0.rt {w:World} {S:Nat → Prop} {v:Value} {a b:AV} (h:Fits0 a b) (hr:RT w S v a):RT w S v b:=by
 cases h with
 | refl=>exact hr
 | nil sz=>
  rw [rtc hr]
  exact .sl none 0 0 sz [] 0 0 (fun _ _=>undef) rfl (Nat.le_refl _) (by omega) (fun h=>by omega) (by simp) (fun h=>by omega) (by simp) (by simp)
theorem RowFit.spec:∀ {l l':List AV},RowFit l l' → l.length=l'.length ∧ ∀ (j:Nat) (b:AV),l'[j]? = some b → ∃ a,l[j]? = some a ∧ Fits0 a b
 | [],[],_=>⟨rfl,fun j b h=>by simp at h⟩
 | a :: l,b :: l',h=>by
  obtain ⟨h1,h2⟩:=RowFit.spec h.2
  refine ⟨by simp [h1],fun j b' h3=>?_⟩
  cases j with
  | zero=>
   simp at h3
   subst h3
   exact ⟨a,rfl,h.1⟩
  | succ j=>exact h2 j b' (by simpa using h3)
 | [],_ :: _,h=>h.elim
 | _ :: _,[],h=>h.elim
theorem RowsFit.spec:∀ {l l':List (List AV)},RowsFit l l' → l.length=l'.length ∧ ∀ (j:Nat) (b:List AV),l'[j]? = some b → ∃ a,l[j]? = some a ∧ RowFit a b
 | [],[],_=>⟨rfl,fun j b h=>by simp at h⟩
 | a :: l,b :: l',h=>by
  obtain ⟨h1,h2⟩:=RowsFit.spec h.2
  refine ⟨by simp [h1],fun j b' h3=>?_⟩
  cases j with
  | zero=>
   simp at h3
   subst h3
   exact ⟨a,rfl,h.1⟩
  | succ j=>exact h2 j b' (by simpa using h3)
 | [],_ :: _,h=>h.elim
 | _ :: _,[],h=>h.elim
theorem Fits1.rt {w:World} {S:Nat → Prop} {v:Value} {a b:AV} (h:Fits1 a b) (hr:RT w S v a):RT w S v b:=by
 cases h with
 | refl=>exact hr
 | nil sz=>exact (Fits0.nil sz).rt hr
 | rows h=>
  rename_i sz r r'
  obtain ⟨hl,hx⟩:=h.spec
  cases hr with
  | sl A n cap sz rows b o U hn hc hm hA hs hcell hone hr=>
   have key:∀ i j row' av',r'[i]? = some row' → row'[j]? = some av' → ∃ row av,r[i]? = some row ∧ row[j]? = some av ∧ Fits0 av av':=fun i j row' av' h1 h2=>by
    obtain ⟨row,h3,h4⟩:=hx i row' h1
    obtain ⟨av,h5,h6⟩:=h4.spec.2 j av' h2
    exact ⟨row,av,h3,h5,h6⟩
   refine .sl A n cap sz r' b o U (hn.trans hl) hc hm hA (fun row' hrow=>?_) (fun h0 i j row' av' h1 h2=>?_) (fun i j row' av' h1 h2=>?_) (fun i j row' av' h1 h2=>?_)
   ·obtain ⟨i,hi⟩:=List.getElem?_of_mem hrow
    obtain ⟨row,h3,h4⟩:=hx i row' hi
    rw [← h4.spec.1]
    exact hs row (List.mem_of_getElem? h3)
   ·obtain ⟨row,av,h3,h4,_⟩:=key i j row' av' h1 h2
    exact hcell h0 i j row av h3 h4
   ·obtain ⟨row,av,h3,h4,_⟩:=key i j row' av' h1 h2
    exact hone i j row av h3 h4
   ·obtain ⟨row,av,h3,h4,h5⟩:=key i j row' av' h1 h2
    exact h5.rt (hr i j row av h3 h4)
theorem FitsL.spec:∀ {l l':List AV},FitsL l l' → l.length=l'.length ∧ ∀ (j:Nat) (a b:AV),l[j]? = some a → l'[j]? = some b → Fits1 a b
 | [],[],_=>⟨rfl,fun j a b h=>by simp at h⟩
 | a :: l,b :: l',h=>by
  obtain ⟨h1,h2⟩:=FitsL.spec h.2
  refine ⟨by simp [h1],fun j a' b' h3 h4=>?_⟩
  cases j with
  | zero=>
   simp at h3 h4
   subst h3 h4
   exact h.1
  | succ j=>exact h2 j a' b' (by simpa using h3) (by simpa using h4)
 | [],_ :: _,h=>h.elim
 | _ :: _,[],h=>h.elim
theorem FitsA.rt {w:World} {S:Nat → Prop} {v:Value} {a b:AV} (h:FitsA a b) (hr:RT w S v a):RT w S v b:=by
 cases h with
 | one h=>exact h.rt hr
 | agg h=>
  obtain ⟨hl,hx⟩:=h.spec
  cases hr with
  | agg xs cs hn hc=>
   refine .agg xs _ (hn.trans hl) fun j x av h1 h2=>?_
   rename_i l l'
   have hj:j<l'.length:=(List.getElem?_eq_some_iff.1 h2).1
   obtain ⟨a,ha⟩:∃ a,l[j]? = some a:=⟨_,List.getElem?_eq_getElem (by omega)⟩
   exact (hx j a av ha h2).rt (hc j x a h1 ha)
theorem FitsAs.spec:∀ {l l':List AV},FitsAs l l' → l.length=l'.length ∧ ∀ (j:Nat) (a b:AV),l[j]? = some a → l'[j]? = some b → FitsA a b
 | [],[],_=>⟨rfl,fun j a b h=>by simp at h⟩
 | a :: l,b :: l',h=>by
  obtain ⟨h1,h2⟩:=FitsAs.spec h.2
  refine ⟨by simp [h1],fun j a' b' h3 h4=>?_⟩
  cases j with
  | zero=>
   simp at h3 h4
   subst h3 h4
   exact h.1
  | succ j=>exact h2 j a' b' (by simpa using h3) (by simpa using h4)
 | [],_ :: _,h=>h.elim
 | _ :: _,[],h=>h.elim
theorem ADet.fits {P:Program} {f:FuncId} {args args':List AV} {R:Res} (h:ADet P f args' R) (hf:FitsAs args args'):ADet P f args R:=
 ⟨h.1,fun S w vs h1 h2 h3=>h.2 S w vs h1 (h2.trans hf.spec.1) fun j v av h4 h5=>by
  have hj:j<args'.length:=(List.getElem?_eq_some_iff.1 h5).1
  obtain ⟨a,ha⟩:∃ a,args[j]? = some a:=⟨_,List.getElem?_eq_getElem (by rw [hf.spec.1];exact hj)⟩
  exact (hf.spec.2 j a av ha h5).rt (h3 j v a h4 ha)⟩
theorem ARel.fits {P:Program} {f:FuncId} {args args':List AV} {Post:Res → Prop} (h:ARel P f args' Post) (hf:FitsAs args args'):ARel P f args Post:=
 ⟨h.1,fun S w vs h1 h2 h3=>h.2 S w vs h1 (h2.trans hf.spec.1) fun j v av h4 h5=>by
  have hj:j<args'.length:=(List.getElem?_eq_some_iff.1 h5).1
  obtain ⟨a,ha⟩:∃ a,args[j]? = some a:=⟨_,List.getElem?_eq_getElem (by rw [hf.spec.1];exact hj)⟩
  exact (hf.spec.2 j a av ha h5).rt (h3 j v a h4 ha)⟩
theorem callPB {u:Option (Nat × List Nat)} {P:Program} {st:ASt} {g:FuncId} {args:List AV} {dst:Option Nat} {K:ASt → Prop} {Q:Bool → Prop} (h:ARel P g (args.map (dref st.tab)) fun R=>∃ b,R=val (.bool b) ∧ Q b) (hk:∀ b,Q b → K (st.put dst (.c (.bool b)))):aCall u P st g args (aK2 dst K):=
 callP h fun R ⟨b,hR,hq⟩=>by subst hR;exact ⟨.inr ⟨trivial,trivial⟩,hk b hq⟩
section
variable {P:Program} {w:World} {d:Nat} {xs ys:Array Value} {f:Field} {fs:List Field}
theorem eqF_cons {x y : Value} {b : Bool} {u : TypeDesc} (hn : f.name ≠ "_") (hu : P.underlying f.type = some u) (hs : ∀ fs, u ≠ .struct fs) (ha : ∀ n e, u ≠ .array n e) (hx : xs[f.offset]? = some x) (hy : ys[f.offset]? = some y) (he : (Op.equalIn d f.type x y).run P w = .ok b w) : (Op.eqFields d xs ys (f :: fs)).run P w = if b = true then (Op.eqFields d xs ys fs).run P w else .ok false w := by
 have hp:∀ (zs:Array Value) (z:Value),zs[f.offset]? = some z → (part f.type zs f.offset).run P w=.ok z w:=fun zs z hz=>by
  simp only [part,Sem.run_bind,isAgg,run_underlying hu,Result.andThen_ok]
  cases u with
  | struct fs=>exact absurd rfl (hs fs)
  | array n e=>exact absurd rfl (ha n e)
  | _=>simp [hz]
 simp only [Op.eqFields,hn,ne_eq,not_false_eq_true,if_true,Sem.run_bind,hp xs x hx,hp ys y hy,Result.andThen_ok,he]
 cases b <;> simp
def cellEq:Value → Value → Option Bool
 | .bool a,.bool b=>some (a == b)
 | .int k a,.int k' b=>if k=k' then some (a == b) else none
 | .string a,.string b=>some (a == b)
 | _,_=>none
def tyFits (P:Program) (t:TypeId):Value → Bool
 | .bool _=>match P.underlying t with | some .bool=>true | _=>false
 | .int k _=>match P.underlying t with | some (.int _)=>true | _=>false
 | .string _=>match P.underlying t with | some .string=>true | _=>false
 | _=>false
theorem cell_eq {t:TypeId} {x y:Value} {b:Bool} (h:cellEq x y=some b) (hx:tyFits P t x=true):(Op.equalIn (d+1) t x y).run P w=.ok b w ∧ ∃ u,P.underlying t=some u ∧ (∀ fs,u ≠ .struct fs) ∧ ∀ n e,u ≠ .array n e:=by
 cases x <;> cases y <;> simp [cellEq] at h
 all_goals (unfold tyFits at hx;simp only at hx;split at hx)
 all_goals try cases hx
 ·rename_i hu
  exact ⟨by simp [Op.equalIn,run_underlying hu,h],_,hu,by simp,by simp⟩
 ·rename_i hu
  obtain ⟨rfl,rfl⟩:=h
  exact ⟨by simp [Op.equalIn,run_underlying hu],_,hu,by simp,by simp⟩
 ·rename_i hu
  exact ⟨by simp [Op.equalIn,run_underlying hu,h],_,hu,by simp,by simp⟩
def cellsEq:List (Value × Value) → Option Bool
 | []=>some true
 | (x,y) :: l=>match cellEq x y,cellsEq l with
  | some b,some c=>some (b && c)
  | _,_=>none
theorem fields_eq : ∀ (fs : List Field) (l : List (Value × Value)) (b : Bool), fs.length = l.length → (∀ (k : Nat) (f : Field) (p : Value × Value), fs[k]? = some f → l[k]? = some p → f.name ≠ "_" ∧ tyFits P f.type p.1 = true ∧ xs[f.offset]? = some p.1 ∧ ys[f.offset]? = some p.2) → cellsEq l = some b → (Op.eqFields (d + 1) xs ys fs).run P w = .ok b w
 | [],[],b,_,_,h=>by
  cases h
  simp [Op.eqFields]
 | f :: fs,(x,y) :: l,b,hl,hf,h=>by
  unfold cellsEq at h
  split at h
  ·rename_i b1 b2 h1 h2
   cases h
   obtain ⟨h3,h4,h5,h6⟩:=hf 0 f (x,y) rfl rfl
   obtain ⟨h7,u,hu,h8,h9⟩:=cell_eq (P:=P) (w:=w) (d:=d) h1 h4
   rw [eqF_cons h3 hu h8 h9 h5 h6 h7,fields_eq fs l b2 (by simpa using hl) (fun k f p hk hp=>hf (k+1) f p (by simpa using hk) (by simpa using hp)) h2]
   cases b1 <;> simp
  ·cases h
theorem structRun {t:TypeId} {op:BinOp} (l:List (Value × Value)) {b:Bool} (ht:P.underlying t=some (.struct (P.fieldsOf t))) (hs:P.stoodInHeld t=false) (hg:P.eqGuardType P.depth t=false) (hl:(P.fieldsOf t).toList.length=l.length)
  (hf : ∀ (k : Nat) (f : Field) (p : Value × Value), (P.fieldsOf t).toList[k]? = some f → l[k]? = some p → f.name ≠ "_" ∧ tyFits P f.type p.1 = true ∧ xs[f.offset]? = some p.1 ∧ ys[f.offset]? = some p.2) (h : cellsEq l = some b) (hop : op = .eql ∨ op = .neq) : BinRun P op t (.agg xs) (.agg ys) (.bool (if op matches .eql then b else !b)) := fun w x y => by
 have he:∀ w,(Op.equalIn 10000 t (.agg xs) (.agg ys)).run P w=.ok b w:=fun w=>by
  rw [run_equalIn_agg w 9999 t xs ys ht hs]
  exact fields_eq (P:=P) (d:=9998) _ l b hl hf h
 rcases hop with rfl|rfl
 ·simp only [Sem.run_bind,run_eqGuard_agg w _ t x y xs ys hg,Result.andThen_ok,run_eql_struct,he]
  rfl
 ·simp only [Sem.run_bind,run_eqGuard_agg w _ t x y xs ys hg,Result.andThen_ok,run_neq_struct,he]
  rfl
end
end
section
open Go.RowKit
theorem and_one_i64 (x:Int):bits .and .i64 x 1=x % 2:=by
 show IntKind.i64.wrap ((BitVec.ofInt 64 x &&& BitVec.ofInt 64 1).toNat:Int)=_
 have h:(BitVec.ofInt 64 x &&& BitVec.ofInt 64 1).toNat=(x % 2).toNat:=by
  rw [BitVec.toNat_and,show (BitVec.ofInt 64 1).toNat=1 from rfl,Nat.and_one_is_mod,BitVec.toNat_ofInt]
  omega
 rw [h]
 have:IntKind.i64.wrap (((x % 2).toNat:Nat):Int)=((x % 2).toNat:Int):=by
  simp [IntKind.wrap,IntKind.bits,IntKind.signed]
  omega
 rw [this]
 omega
structure Inst where
 op:Int
 la:Int
 ln:Int
 ra:Int
 rn:Int
 n:Int
 u:Int
structure St where
 vals:List Int
 opn:Int
 don:Int
 did:List Int
 cnt:List Int
def hasB (s i:Int):Bool:=decide (0≤i) && decide (i<31) && (s / 2 ^ i.toNat % 2 == 1)
def soB (op c:Int):Bool:=
 if op=3 then decide (c<0) else if op=4 then decide (c≤0) else if op=5 then decide (0<c) else if op=6 then decide (0≤c) else if op=7 then c == 0 else if op=8 then c != 0 else false
def cmpI (a b:Int):Int:=if a<b then -1 else if b<a then 1 else 0
def valO (vals:List Int) (a n:Int):Option Int:=if a = -1 then some n else if a<0 then none else vals[a.toNat]?
def arity (op:Int):Int:=
 if 1≤op ∧ op≤14 then 0 else if op=15 ∨ (19≤op ∧ op≤24) then 1 else if (16≤op ∧ op≤18) ∨ op=25 ∨ op=26 then 2 else -1
def pushN (d:Nat) (op:Int):Option Nat:=
 if arity op=0 then some (d+1) else if arity op=1 ∧ 1≤d then some d else if arity op=2 ∧ 2≤d then some (d - 1) else none
def rowN:List Int → Nat → Option Nat
 | [],d=>some d
 | op :: l,d=>match pushN d op with
  | some d'=>rowN l d'
  | none=>none
def checkE (l:List Int):Int:=if l.length=0 then 12 else if 64<l.length then 3 else if rowN l 0=some 1 then 0 else 17
def stepG (cm:Inst → Option Int) (opn don:Int) (x:Inst) (r:List Bool):Option (List Bool):=
 if x.op=1 ∨ x.op=2 then some ((x.op == 1) :: r)
 else if 3≤x.op ∧ x.op≤8 then
  match cm x with
  | some c=>some (soB x.op c :: r)
  | none=>none
 else if x.op=9 then some (hasB opn x.n :: r)
 else if x.op=10 then some (hasB don x.n :: r)
 else if x.op=15 then
  match r with
  | a :: r=>some ((!a) :: r)
  | []=>none
 else if 16≤x.op ∧ x.op≤18 then
  match r with
  | b :: a :: r=>some ((if x.op=16 then a && b else if x.op=17 then a || b else !a || b) :: r)
  | _=>none
 else none
def runG (cm:Inst → Option Int) (opn don:Int):List Inst → List Bool → Option (List Bool)
 | [],r=>some r
 | x :: l,r=>match stepG cm opn don x r with
  | some r'=>runG cm opn don l r'
  | none=>none
def holdsG (cm:Inst → Option Int) (opn don:Int) (l:List Inst):Option Bool:=
 if checkE (l.map Inst.op) ≠ 0 then none else
  match runG cm opn don l [] with
  | some (b :: _)=>some b
  | _=>none
def cmS (vals:List Int) (x:Inst):Option Int:=match valO vals x.la x.ln,valO vals x.ra x.rn with
 | some a,some b=>some (cmpI a b)
 | _,_=>none
def holdsO (l:List Inst) (s:St):Option Bool:=holdsG (cmS s.vals) s.opn s.don l
def optB (o:Option Bool):Bool:=o.getD false
def optE (o:Option Bool):Int:=if o.isSome then 0 else 17
end
section
open Go.RowKit Go.ChangeShapes Go.WideShapes Go.Deep
structure Rep (α:Type) where
 size:Nat
 at_:World → (Nat → Prop) → List Value → α → Prop
 len:∀ {w:World} {S:Nat → Prop} {cs:List Value} {a:α},at_ w S cs a → cs.length=size
 keep:∀ {w w':World} {S:Nat → Prop} {cs:List Value} {a:α},at_ w S cs a → (∀ p:Addr,S p.block → w'.cell? p=w.cell? p) → at_ w' S cs a
 mono:∀ {w:World} {S S':Nat → Prop} {cs:List Value} {a:α},at_ w S cs a → (∀ b,S b → S' b) → at_ w S' cs a
def Rep.one {α:Type} (r:Rep α) (w:World) (S:Nat → Prop) (v:Value) (a:α):Prop:=r.at_ w S [v] a
def Rep.agg {α:Type} (r:Rep α) (w:World) (S:Nat → Prop) (v:Value) (a:α):Prop:=∃ cs:Array Value,v=.agg cs ∧ r.at_ w S cs.toList a
def intR (k:IntKind):Rep Int where
 size:=1
 at_:=fun _ _ cs n=>cs=[.int k n] ∧ (Lit.int k n).wf=true
 len:=fun h=>by rw [h.1];rfl
 keep:=fun h _=>h
 mono:=fun h _=>h
def boolR:Rep Bool where
 size:=1
 at_:=fun _ _ cs b=>cs=[.bool b]
 len:=fun h=>by rw [h];rfl
 keep:=fun h _=>h
 mono:=fun h _=>h
def strR:Rep ByteArray where
 size:=1
 at_:=fun _ _ cs s=>cs=[.string s] ∧ s.size≤9223372036854775807
 len:=fun h=>by rw [h.1];rfl
 keep:=fun h _=>h
 mono:=fun h _=>h
def rowAt {α:Type} (r:Rep α) (w:World) (S:Nat → Prop) (b o:Nat) (l:List α):Prop:=
 ∀ i (h:i<l.length),∃ cs,(∀ j u,cs[j]? = some u → w.cell? ⟨b,o+i * r.size+j,none⟩=some u) ∧ r.at_ w S cs l[i]
theorem rowAt_keep {α:Type} {r:Rep α} {w w':World} {S:Nat → Prop} {b o:Nat} {l:List α} (h:rowAt r w S b o l) (hb:S b) (hk:∀ p:Addr,S p.block → w'.cell? p=w.cell? p):rowAt r w' S b o l:=by
 intro i hi
 obtain ⟨cs,h1,h2⟩:=h i hi
 exact ⟨cs,fun j u hu=>(hk _ hb).trans (h1 j u hu),r.keep h2 hk⟩
theorem rowAt_mono {α:Type} {r:Rep α} {w:World} {S S':Nat → Prop} {b o:Nat} {l:List α} (h:rowAt r w S b o l) (hB:∀ b,S b → S' b):rowAt r w S' b o l:=by
 intro i hi
 obtain ⟨cs,h1,h2⟩:=h i hi
 exact ⟨cs,h1,r.mono h2 hB⟩
def sliceR {α:Type} (r:Rep α):Rep (List α) where
 size:=1
 at_:=fun w S cs l=>∃ A c,cs=[.slice A l.length c] ∧ l.length≤c ∧ c≤9223372036854775807 ∧ (0<l.length → ∃ b o,A=some ⟨b,o,none⟩ ∧ S b ∧ rowAt r w S b o l)
 len:=fun ⟨A,c,h,_⟩=>by rw [h];rfl
 keep:=fun ⟨A,c,h1,h2,h3,h4⟩ hk=>⟨A,c,h1,h2,h3,fun hl=>by
  obtain ⟨b,o,e,hb,hr⟩:=h4 hl
  exact ⟨b,o,e,hb,rowAt_keep hr hb hk⟩⟩
 mono:=fun ⟨A,c,h1,h2,h3,h4⟩ hB=>⟨A,c,h1,h2,h3,fun hl=>by
  obtain ⟨b,o,e,hb,hr⟩:=h4 hl
  exact ⟨b,o,e,hB b hb,rowAt_mono hr hB⟩⟩
def pairR {α β:Type} (r:Rep α) (s:Rep β):Rep (α × β) where
 size:=r.size+s.size
 at_:=fun w S cs x=>∃ c1 c2,cs=c1 ++ c2 ∧ r.at_ w S c1 x.1 ∧ s.at_ w S c2 x.2
 len:=fun ⟨c1,c2,h,h1,h2⟩=>by rw [h,List.length_append,r.len h1,s.len h2]
 keep:=fun ⟨c1,c2,h,h1,h2⟩ hk=>⟨c1,c2,h,r.keep h1 hk,s.keep h2 hk⟩
 mono:=fun ⟨c1,c2,h,h1,h2⟩ hB=>⟨c1,c2,h,r.mono h1 hB,s.mono h2 hB⟩
def nilR:Rep Unit where
 size:=0
 at_:=fun _ _ cs _=>cs=[]
 len:=fun h=>by rw [h];rfl
 keep:=fun h _=>h
 mono:=fun h _=>h
theorem Rep.below {α:Type} {r:Rep α} {w w':World} {S:Nat → Prop} {B':Nat} {cs:List Value} {a:α} (h:r.at_ w S cs a) (hb:Below B' w w') (hB:∀ b,S b → b<B'):r.at_ w' S cs a:=
 r.keep h fun p hp=>hb.cell (hB _ hp)
theorem Rep.one_below {α:Type} {r:Rep α} {w w':World} {S:Nat → Prop} {B':Nat} {v:Value} {a:α} (h:r.one w S v a) (hb:Below B' w w') (hB:∀ b,S b → b<B'):r.one w' S v a:=Rep.below (r:=r) h hb hB
theorem wf_i64 {n:Int} (h:(Lit.int .i64 n).wf=true):-9223372036854775808≤n ∧ n≤9223372036854775807:=by
 simpa [Lit.wf,IntKind.min,IntKind.max,IntKind.signed,IntKind.bits] using h
theorem wf_i64_mk {n:Int} (h1:-9223372036854775808≤n) (h2:n≤9223372036854775807):(Lit.int .i64 n).wf=true:=by
 simp [Lit.wf,IntKind.min,IntKind.max,IntKind.signed,IntKind.bits];omega
section
variable {α:Type} {r:Rep α} {w w':World} {S:Nat → Prop} {v:Value} {l:List α}
theorem slice_form (h:(sliceR r).one w S v l):∃ A c,v=.slice A l.length c ∧ l.length≤c ∧ c≤9223372036854775807:=by
 obtain ⟨A,c,h1,h2,h3,_⟩:=h
 exact ⟨A,c,by simpa using h1,h2,h3⟩
theorem slice_some {A:Option Addr} {n c:Nat} (h:(sliceR r).one w S (.slice A n c) l) (hn:0<l.length):∃ b o,A=some ⟨b,o,none⟩ ∧ S b ∧ rowAt r w S b o l:=by
 obtain ⟨A',c',h1,_,_,h4⟩:=h
 simp at h1
 obtain ⟨rfl,_,_⟩:=h1
 exact h4 hn
theorem slice_at1 (hs:r.size=1) {b o c:Nat} {n:Nat} (h:(sliceR r).one w S (.slice (some ⟨b,o,none⟩) n c) l) {k:Nat} (hk:k<l.length):∃ u,w.cell? ⟨b,o+k,none⟩=some u ∧ r.at_ w S [u] l[k]:=by
 obtain ⟨b',o',e,_,hr⟩:=slice_some h (by omega)
 simp at e
 obtain ⟨rfl,rfl⟩:=e
 obtain ⟨cs,h1,h2⟩:=hr k hk
 have hl:=r.len h2
 rw [hs] at hl h1
 match cs,hl with
 | [u],_=>exact ⟨u,by simpa using h1 0 u rfl,h2⟩
theorem slice_nil (w:World) (S:Nat → Prop) (r:Rep α):(sliceR r).one w S (.slice none 0 0) []:=⟨none,0,rfl,Nat.le_refl _,by omega,fun h=>absurd h (by simp)⟩
theorem slice_own {base:Nat} {e:TypeId} {size n:Nat} {xs:List Value} (h:w.ownsRow base e size v n xs) (hs:r.size=size) (hn:n=l.length) (hx:∀ i (hi:i<l.length),r.at_ w (fun b=>base≤b ∧ b<w.heap.size) ((xs.drop (i * size)).take size) l[i]) :
  (sliceR r).one w (fun b=>base≤b ∧ b<w.heap.size) v l:=by
 subst hn
 rcases h.2 with ⟨rfl,h0⟩|⟨g,cap,cur,rfl,hb,hg,hc,hm,hcs,ht⟩
 ·refine ⟨none,0,by rw [h0],by omega,by omega,fun hl=>by omega⟩
 ·refine ⟨some ⟨g,0,none⟩,cap,rfl,hc,by simpa [maxLen] using hm,fun hl=>⟨g,0,rfl,⟨hb,(Array.getElem?_eq_some_iff.1 hg).1⟩,fun i hi=>⟨_,fun j u hu=>?_,hx i hi⟩⟩⟩
  have hj:j<size:=by
   have:=(List.getElem?_eq_some_iff.1 hu).1
   simp at this;omega
  rw [List.getElem?_take,if_pos hj,List.getElem?_drop] at hu
  have:=h.cells (g:=g) rfl _ u hu
  rw [addAddr0] at this
  rw [hs,Nat.zero_add]
  exact this
theorem slice_own1 {base:Nat} {e:TypeId} {n:Nat} (f:α → Value) (h:w.ownsRow base e 1 v n (l.map f)) (hs:r.size=1) (hx:∀ a ∈ l,r.at_ w (fun b=>base≤b ∧ b<w.heap.size) [f a] a):(sliceR r).one w (fun b=>base≤b ∧ b<w.heap.size) v l:=by
 have hn:n=l.length:=by have:=h.1;simp at this;omega
 refine slice_own h hs hn fun i hi=>?_
 have e:(((l.map f).drop (i * 1)).take 1)=[f l[i]]:=by
  rw [Nat.mul_one,List.drop_eq_getElem_cons (by simpa using hi)]
  simp
 rw [e]
 exact hx _ (List.getElem_mem hi)
theorem slice_below (h:(sliceR r).one w S v l) {B':Nat} (hb:Below B' w w') (hB:∀ b,S b → b<B'):(sliceR r).one w' S v l:=Rep.one_below h hb hB
theorem slice_mono (h:(sliceR r).one w S v l) {S':Nat → Prop} (hB:∀ b,S b → S' b):(sliceR r).one w S' v l:=Rep.mono (sliceR r) h hB
theorem slice_keep (h:(sliceR r).one w S v l) (hk:∀ p:Addr,S p.block → w'.cell? p=w.cell? p):(sliceR r).one w' S v l:=Rep.keep (sliceR r) h hk
end
theorem ints_at {w:World} {S:Nat → Prop} {b o c n:Nat} {l:List Int} (h:(sliceR (intR .i64)).one w S (.slice (some ⟨b,o,none⟩) n c) l) {k:Nat} (hk:k<l.length) :
  w.cell? ⟨b,o+k,none⟩=some (.int .i64 l[k]) ∧ -9223372036854775808≤l[k] ∧ l[k]≤9223372036854775807:=by
 obtain ⟨u,h1,h2⟩:=slice_at1 (r:=intR .i64) rfl h hk
 obtain ⟨h2,h3⟩:=h2
 simp at h2
 subst h2
 exact ⟨h1,wf_i64 h3⟩
theorem exists_list {α:Type} {p:Nat → α → Prop}:∀ {n:Nat},(∀ i,i<n → ∃ y,p i y) → ∃ l:List α,l.length=n ∧ ∀ i (h:i<l.length),p i l[i]:=by
 intro n
 induction n with
 | zero=>intro _;exact ⟨[],rfl,fun i h=>absurd h (by simp)⟩
 | succ n ih=>
  intro h
  obtain ⟨l,h1,h2⟩:=ih fun i hi=>h i (by omega)
  obtain ⟨y,hy⟩:=h n (by omega)
  refine ⟨l ++ [y],by simp [h1],fun i hi=>?_⟩
  by_cases hin:i<l.length
  ·rw [List.getElem_append_left hin];exact h2 i hin
  ·have:i=l.length:=by simp at hi;omega
   subst this
   rw [List.getElem_append_right (by omega)]
   simpa [h1] using hy
def Opens {α:Type} (P:Program) (t:TypeId) (r:Rep α):Prop:=∀ (H:Type) (enc:TypeId × Value → H) (w:World) (fuel:Nat) (cs:List Value) (x:DataW H × List MemPlace),
 DataW.trod enc P w 0 (fun _=>true) true fuel t cs=some x → ∃ a,r.at_ w (fun b=>b<w.heap.size) cs a
section
variable {P:Program}
theorem opens_int {t:TypeId} {k:IntKind} (h:P.underlying t=some (.int k)):Opens P t (intR k):=by
 intro H enc w fuel cs x hx
 obtain ⟨n,rfl,_,hw⟩:=DataW.trod_int h hx
 exact ⟨n,rfl,hw⟩
theorem opens_bool {t:TypeId} (h:P.underlying t=some .bool):Opens P t boolR:=by
 intro H enc w fuel cs x hx
 obtain ⟨b,rfl,_⟩:=DataW.trod_bool h hx
 exact ⟨b,rfl⟩
theorem opens_slice {α:Type} {t e:TypeId} {r:Rep α} (ht:P.underlying t=some (.slice e)) (hs:P.cellsOf e=r.size) (hp:0<r.size) (ho:Opens P e r):Opens P t (sliceR r):=by
 intro H enc w fuel cs x hx
 rcases Go.Deep.open_slice ht hx with ⟨rfl,_⟩|⟨a,len,cap,m,n,D,Pl,rfl,_,hl,hm,hmm,_,hi⟩
 ·exact ⟨[],slice_nil _ _ _⟩
 ·simp only [if_true] at hmm
  subst hmm
  obtain ⟨l,hll,hl2⟩:=exists_list (n:=len) (p:=fun i y=>∃ cs',w.cells? 0 (a.add (i * P.cellsOf e)) (P.cellsOf e)=some cs' ∧ r.at_ w (fun b=>b<w.heap.size) cs' y) (fun i hil=>by
   obtain ⟨cs',h1,h2⟩:=hi i (by omega)
   obtain ⟨y,hy⟩:=ho H enc w n cs' _ h2
   exact ⟨y,cs',h1,hy⟩)
  subst hll
  refine ⟨l,some a,_,rfl,hl,by simpa [maxLen] using hm,fun h0=>?_⟩
  obtain ⟨cs0,h1,h2⟩:=hl2 0 h0
  obtain ⟨_,hlen,hc⟩:=World.cells?_some h1
  have hc0:=hc 0 (by omega)
  have hlt:0<cs0.length:=by rw [hlen];omega
  rw [List.getElem?_eq_getElem hlt] at hc0
  have e0:(a.add (0 * P.cellsOf e)).add 0=a:=by simp [Addr.add]
  rw [e0] at hc0
  have hb:=World.block_lt_of_cell? w a hc0
  have hsp:a.spot=none:=by
   unfold World.cell? at hc0
   split at hc0
   ·split at hc0
    ·cases hc0
    ·rename_i h5;simpa using h5
   ·cases hc0
  obtain ⟨b,o,sp⟩:=a
  simp only at hsp hb
  subst hsp
  refine ⟨b,o,rfl,hb,fun i hi'=>?_⟩
  obtain ⟨cs',h1,h2⟩:=hl2 i hi'
  refine ⟨cs',fun j u hu=>?_,h2⟩
  obtain ⟨_,hlen',hc'⟩:=World.cells?_some h1
  have hj:j<P.cellsOf e:=by
   have:=(List.getElem?_eq_some_iff.1 hu).1
   omega
  have:=hc' j hj
  rw [hu,Go.Deep.add_add,hs] at this
  rw [← this]
  congr 1
  unfold Addr.add
  split
  ·rename_i h6;simp_all
  ·simp [Nat.add_assoc]
end
end
section
open Go.RowKit
def ok64 (n:Int):Prop:=-9223372036854775808≤n ∧ n≤9223372036854775807
def Inst.cells (x:Inst):List Value:=[.int .i64 x.op,.int .i64 x.la,.int .i64 x.ln,.int .i64 x.ra,.int .i64 x.rn,.int .i64 x.n,.int .i64 x.u]
def Inst.ok (x:Inst):Prop:=ok64 x.op ∧ ok64 x.la ∧ ok64 x.ln ∧ ok64 x.ra ∧ ok64 x.rn ∧ ok64 x.n ∧ ok64 x.u
def instR:Rep Inst where
 size:=7
 at_:=fun _ _ cs x=>cs=x.cells ∧ x.ok
 len:=fun h=>by rw [h.1];rfl
 keep:=fun h _=>h
 mono:=fun h _=>h
structure Item where
 op:Int
 ln:ByteArray
 lv:Int
 rn:ByteArray
 rv:Int
 name:ByteArray
 user:ByteArray
 line:Int
 col:Int
def Item.cells (x:Item):List Value:=[.int .i64 x.op,.string x.ln,.int .i64 x.lv,.string x.rn,.int .i64 x.rv,.string x.name,.string x.user,.int .i64 x.line,.int .i64 x.col]
def Item.ok (x:Item):Prop:=ok64 x.op ∧ ok64 x.lv ∧ ok64 x.rv ∧ ok64 x.line ∧ ok64 x.col ∧ x.ln.size≤9223372036854775807 ∧ x.rn.size≤9223372036854775807 ∧ x.name.size≤9223372036854775807 ∧ x.user.size≤9223372036854775807
def itemR:Rep Item where
 size:=9
 at_:=fun _ _ cs x=>cs=x.cells ∧ x.ok
 len:=fun h=>by rw [h.1];rfl
 keep:=fun h _=>h
 mono:=fun h _=>h
theorem plain_at {α:Type} {r:Rep α} {cells:α → List Value} {ok:α → Prop} (hr:∀ w S cs x,r.at_ w S cs x → cs=cells x ∧ ok x) {w:World} {S:Nat → Prop} {b o c n:Nat} {l:List α} (h:(sliceR r).one w S (.slice (some ⟨b,o,none⟩) n c) l) {k:Nat} (hk:k<l.length) :
  (∀ j u,(cells l[k])[j]? = some u → w.cell? ⟨b,o+k * r.size+j,none⟩=some u) ∧ ok l[k]:=by
 obtain ⟨b',o',e,_,hrow⟩:=slice_some h (by omega)
 simp at e
 obtain ⟨rfl,rfl⟩:=e
 obtain ⟨cs,h1,h2⟩:=hrow k hk
 obtain ⟨rfl,h3⟩:=hr _ _ _ _ h2
 exact ⟨h1,h3⟩
theorem insts_at {w:World} {S:Nat → Prop} {b o c n:Nat} {l:List Inst} (h:(sliceR instR).one w S (.slice (some ⟨b,o,none⟩) n c) l) {k:Nat} (hk:k<l.length) :
  (∀ j u,(l[k].cells)[j]? = some u → w.cell? ⟨b,o+k * 7+j,none⟩=some u) ∧ l[k].ok:=plain_at (r:=instR) (cells:=Inst.cells) (ok:=Inst.ok) (fun _ _ _ _ h=>h) h hk
theorem items_at {w:World} {S:Nat → Prop} {b o c n:Nat} {l:List Item} (h:(sliceR itemR).one w S (.slice (some ⟨b,o,none⟩) n c) l) {k:Nat} (hk:k<l.length) :
  (∀ j u,(l[k].cells)[j]? = some u → w.cell? ⟨b,o+k * 9+j,none⟩=some u) ∧ l[k].ok:=plain_at (r:=itemR) (cells:=Item.cells) (ok:=Item.ok) (fun _ _ _ _ h=>h) h hk
theorem slice_ownP {α:Type} {r:Rep α} (cells:α → List Value) {l:List α} {w:World} {v:Value} {base:Nat} {e:TypeId} {n:Nat} (hx:∀ x ∈ l,r.at_ w (fun b=>base≤b ∧ b<w.heap.size) (cells x) x) (h:w.ownsRow base e r.size v n (l.flatMap cells)) (h0:0<r.size) :
  (sliceR r).one w (fun b=>base≤b ∧ b<w.heap.size) v l:=by
 have hlen:∀ x ∈ l,(cells x).length=r.size:=fun x hx'=>r.len (hx x hx')
 have key:∀ (l:List α),(∀ x ∈ l,(cells x).length=r.size) → (l.flatMap cells).length=l.length * r.size ∧ ∀ i (hi:i<l.length),((l.flatMap cells).drop (i * r.size)).take r.size=cells l[i]:=by
  intro l
  induction l with
  | nil=>intro _;exact ⟨by simp,fun i hi=>by simp at hi⟩
  | cons a l ih=>
   intro hl
   obtain ⟨h1,h2⟩:=ih (fun x hx=>hl x (by simp [hx]))
   have ha:=hl a (by simp)
   refine ⟨by rw [List.flatMap_cons,List.length_append,h1,ha,List.length_cons,Nat.succ_mul];omega,fun i hi=>?_⟩
   rw [List.flatMap_cons]
   cases i with
   | zero=>rw [Nat.zero_mul,List.drop_zero,← ha,List.take_left];rfl
   | succ i=>
    rw [Nat.succ_mul,Nat.add_comm,← ha,List.drop_append,ha,List.drop_of_length_le (by omega),List.nil_append,show r.size+i * r.size - r.size=i * r.size by omega]
    exact h2 i (by simpa using hi)
 obtain ⟨h1,h2⟩:=key l hlen
 have hn:n=l.length:=by
  have:=h.1
  rw [h1] at this
  exact (Nat.eq_of_mul_eq_mul_right h0 this).symm
 exact slice_own h rfl hn fun i hi=>by rw [h2 i hi];exact hx _ (List.getElem_mem hi)
end
section
open Go.RowKit Go.ChangeShapes Go.WideShapes Go.Deep
def OpensF {α:Type} (P:Program) (fs:List Field) (off:Nat) (r:Rep α):Prop:=∀ (H:Type) (enc:TypeId × Value → H) (w:World) (fuel:Nat) (cs:List Value),
 off+r.size≤cs.length → (∀ (i:Nat) (f:Field),fs[i]? = some f → ∃ x,DataW.trod enc P w 0 (fun _=>true) true fuel f.type ((cs.drop f.offset).take (P.cellsOf f.type))=some x) →
 ∃ a,r.at_ w (fun b=>b<w.heap.size) ((cs.drop off).take r.size) a
theorem opensF_nil (P:Program) (off:Nat):OpensF P [] off nilR:=fun _ _ _ _ _ _ _=>⟨(),by simp [nilR]⟩
theorem opensF_cons {α β:Type} {P:Program} {f:Field} {fs:List Field} {off:Nat} {r:Rep α} {s:Rep β} (ho:f.offset=off) (hc:P.cellsOf f.type=r.size) (h1:Opens P f.type r) (h2:OpensF P fs (off+r.size) s):OpensF P (f :: fs) off (pairR r s):=by
 intro H enc w fuel cs hl hf
 have hlr:off+(r.size+s.size)≤cs.length:=hl
 obtain ⟨x,hx⟩:=hf 0 f rfl
 obtain ⟨a,ha⟩:=h1 H enc w fuel _ _ hx
 obtain ⟨b,hb⟩:=h2 H enc w fuel cs (by omega) (fun i g hg=>hf (i+1) g (by simpa using hg))
 refine ⟨(a,b),_,_,?_,ha,hb⟩
 rw [ho,hc]
 show List.take (r.size+s.size) (cs.drop off)=_
 rw [List.take_add,List.drop_drop]
theorem opens_struct {α:Type} {P:Program} {t:TypeId} {fs:Array Field} {r:Rep α} (ht:P.underlying t=some (.struct fs)) (hc:P.cellsOf t=r.size) (ho:OpensF P fs.toList 0 r):Opens P t r:=by
 intro H enc w fuel cs x hx
 obtain ⟨xs,n,_,_,hl,hlen,hf⟩:=DataW.trod_struct ht hx
 obtain ⟨a,ha⟩:=ho H enc w n cs (by omega) (fun i f hfi=>by
  have hfi':fs[i]? = some f:=by simpa using hfi
  have h1:=hf i f hfi'
  have hi:i<xs.length:=by rw [hlen];exact (Array.getElem?_eq_some_iff.1 hfi').1
  exact ⟨xs[i],by rw [h1,List.getElem?_eq_getElem hi]⟩)
 refine ⟨a,?_⟩
 rwa [List.drop_zero,List.take_of_length_le (by omega)] at ha
theorem opens_string {P:Program} {t:TypeId} (h:P.underlying t=some .string):Opens P t strR:=by
 intro H enc w fuel cs x hx
 obtain ⟨s,rfl,_,hs⟩:=DataW.trod_string h hx
 exact ⟨s,rfl,by simpa [maxLen] using hs⟩
theorem opens_map {α β:Type} {P:Program} {t:TypeId} {r:Rep α} {s:Rep β} (h:Opens P t r) (f:α → β) (hf:∀ w S cs a,r.at_ w S cs a → s.at_ w S cs (f a)):Opens P t s:=by
 intro H enc w fuel cs x hx
 obtain ⟨a,ha⟩:=h H enc w fuel cs x hx
 exact ⟨f a,hf _ _ _ _ ha⟩
theorem okWide_struct {P:Program} {W:World} {r:Reach} {b:Nat} {t:TypeId} {fs:Array Field} {v:Value} (ht:P.underlying t=some (.struct fs)) (h:Value.okWide P W r b t v):∃ cs,v=.agg cs ∧ cs.size=P.cellsOf t:=by
 simp only [Value.okWide,ht] at h
 obtain ⟨cs,h1,h2,_⟩:=h
 exact ⟨cs,h1,h2⟩
theorem pair_inv {α β:Type} {r:Rep α} {s:Rep β} {w:World} {S:Nat → Prop} {cs:List Value} {p:α × β} (h:(pairR r s).at_ w S cs p):∃ c1 c2,cs=c1 ++ c2 ∧ r.at_ w S c1 p.1 ∧ s.at_ w S c2 p.2:=h
theorem one_inv {α:Type} {r:Rep α} {w:World} {S:Nat → Prop} {cs:List Value} {a:α} (hr:r.size=1) (h:r.at_ w S cs a):∃ v,cs=[v] ∧ r.one w S v a:=by
 have:=r.len h
 rw [hr] at this
 match cs,this with
 | [v],_=>exact ⟨v,rfl,h⟩
end
section
open Go.RowKit
structure Gd where
 stage:Int
 event:Int
 cond:List Inst
structure Ml where
 name:ByteArray
 stage:Int
 event:Int
 cond:List Inst
 final:Bool
structure Ev where
 name:ByteArray
 role:Int
 stage:Int
 sets:List Int
 times:Int
structure Mod where
 attrs:List ByteArray
 inits:List Int
 users:List ByteArray
 roles:List (ByteArray × Int)
 stages:List (ByteArray × Int)
 events:List Ev
 guards:List Gd
 miles:List Ml
 sods:List (Int × Int)
 order:List (Bool × Int)
def strOk (s:ByteArray):Prop:=s.size≤9223372036854775807
def nameIntR:Rep (ByteArray × Int) where
 size:=2
 at_:=fun _ _ cs x=>cs=[.string x.1,.int .i64 x.2] ∧ strOk x.1 ∧ ok64 x.2
 len:=fun h=>by rw [h.1];rfl
 keep:=fun h _=>h
 mono:=fun h _=>h
def intIntR:Rep (Int × Int) where
 size:=2
 at_:=fun _ _ cs x=>cs=[.int .i64 x.1,.int .i64 x.2] ∧ ok64 x.1 ∧ ok64 x.2
 len:=fun h=>by rw [h.1];rfl
 keep:=fun h _=>h
 mono:=fun h _=>h
def sentryR:Rep (Bool × Int) where
 size:=2
 at_:=fun _ _ cs x=>cs=[.bool x.1,.int .i64 x.2] ∧ ok64 x.2
 len:=fun h=>by rw [h.1];rfl
 keep:=fun h _=>h
 mono:=fun h _=>h
def gdR:Rep Gd where
 size:=3
 at_:=fun w S cs g=>∃ cv,cs=[.int .i64 g.stage,.int .i64 g.event,cv] ∧ (sliceR instR).one w S cv g.cond ∧ ok64 g.stage ∧ ok64 g.event
 len:=fun ⟨_,h,_⟩=>by rw [h];rfl
 keep:=fun ⟨cv,h,h2,h3⟩ hk=>⟨cv,h,slice_keep h2 hk,h3⟩
 mono:=fun ⟨cv,h,h2,h3⟩ hB=>⟨cv,h,slice_mono h2 hB,h3⟩
def mlR:Rep Ml where
 size:=5
 at_:=fun w S cs g=>∃ cv,cs=[.string g.name,.int .i64 g.stage,.int .i64 g.event,cv,.bool g.final] ∧ (sliceR instR).one w S cv g.cond ∧ ok64 g.stage ∧ ok64 g.event ∧ strOk g.name
 len:=fun ⟨_,h,_⟩=>by rw [h];rfl
 keep:=fun ⟨cv,h,h2,h3⟩ hk=>⟨cv,h,slice_keep h2 hk,h3⟩
 mono:=fun ⟨cv,h,h2,h3⟩ hB=>⟨cv,h,slice_mono h2 hB,h3⟩
def evR:Rep Ev where
 size:=5
 at_:=fun w S cs g=>∃ cv,cs=[.string g.name,.int .i64 g.role,.int .i64 g.stage,cv,.int .i64 g.times] ∧ (sliceR (intR .i64)).one w S cv g.sets ∧ ok64 g.role ∧ ok64 g.stage ∧ ok64 g.times ∧ strOk g.name
 len:=fun ⟨_,h,_⟩=>by rw [h];rfl
 keep:=fun ⟨cv,h,h2,h3⟩ hk=>⟨cv,h,slice_keep h2 hk,h3⟩
 mono:=fun ⟨cv,h,h2,h3⟩ hB=>⟨cv,h,slice_mono h2 hB,h3⟩
def SI {α:Type} (r:Rep α) (w:World) (v:Value) (l:List α):Prop:=(sliceR r).one w (fun b=>b<w.heap.size) v l
theorem SI.below {α:Type} {r:Rep α} {w w':World} {v:Value} {l:List α} (h:SI r w v l) (hb:Below w.heap.size w w'):SI r w' v l:=slice_mono (slice_below h hb fun b h=>h) fun b h=>Nat.lt_of_lt_of_le h hb.size
theorem SI.mk {α:Type} {r:Rep α} {w:World} {S:Nat → Prop} {v:Value} {l:List α} (h:(sliceR r).one w S v l) (hS:∀ b,S b → b<w.heap.size):SI r w v l:=slice_mono h hS
theorem SI.form {α:Type} {r:Rep α} {w:World} {v:Value} {l:List α} (h:SI r w v l):∃ A c,v=.slice A l.length c ∧ l.length≤c ∧ c≤9223372036854775807:=slice_form h
structure MV where
 attrs:Value
 inits:Value
 users:Value
 roles:Value
 stages:Value
 events:Value
 guards:Value
 miles:Value
 sods:Value
 order:Value
abbrev MV.cells (V:MV):Array Value:=#[V.attrs,V.inits,V.users,V.roles,V.stages,V.events,V.guards,V.miles,V.sods,V.order]
structure ModI (w:World) (V:MV) (m:Mod):Prop where
 attrs:SI strR w V.attrs m.attrs
 inits:SI (intR .i64) w V.inits m.inits
 users:SI strR w V.users m.users
 roles:SI nameIntR w V.roles m.roles
 stages:SI nameIntR w V.stages m.stages
 events:SI evR w V.events m.events
 guards:SI gdR w V.guards m.guards
 miles:SI mlR w V.miles m.miles
 sods:SI intIntR w V.sods m.sods
 order:SI sentryR w V.order m.order
theorem ModI.below {w w':World} {V:MV} {m:Mod} (h:ModI w V m) (hb:Below w.heap.size w w'):ModI w' V m:=
 ⟨h.attrs.below hb,h.inits.below hb,h.users.below hb,h.roles.below hb,h.stages.below hb,h.events.below hb,h.guards.below hb,h.miles.below hb,h.sods.below hb,h.order.below hb⟩
end
section
open Go.RowKit
theorem number_any (i:Int) (w:World):Calls Tryz.prog 120 #[.int .i64 i] w fun e w'=>e=.returned (.bool (decide (0≤i) && decide (i<31))) ∧ w=w':=by
 by_cases h:0≤i <;> (go_enter Tryz.func120,Tryz.ntmps120;go_wp2;go_ret;exact ⟨by congr 2;simp [h] <;> omega,rfl⟩)
theorem ret_bool {a b:Bool} (h:a=b):Ending.returned (.bool a)=.returned (.bool b):=by rw [h]
theorem ret_i64 {a b:Int} (h:a=b):Ending.returned (.int .i64 a)=.returned (.int .i64 b):=by rw [h]
theorem has_any (s i:Int) (w:World):Calls Tryz.prog 139 #[.int .i64 s,.int .i64 i] w fun e w'=>e=.returned (.bool (hasB s i)) ∧ w=w':=by
 by_cases h0:0≤i
 ·by_cases h1:i<31
  ·have e0:decide (0≤i)=true:=by simp;omega
   have e1:decide (i<31)=true:=by simp;omega
   go_enter Tryz.func139,Tryz.ntmps139
   go_wp2_with (go_at_call 120;refine (number_any _ _).mono ?_;rintro e w' ⟨rfl,rfl⟩)
   go_ret
   exact ⟨ret_bool (by unfold hasB;rw [and_one_i64,e0,e1];rfl),rfl⟩
  ·have e0:decide (0≤i)=true:=by simp;omega
   have e1:decide (i<31)=false:=by simp;omega
   go_enter Tryz.func139,Tryz.ntmps139
   go_wp2_with (go_at_call 120;refine (number_any _ _).mono ?_;rintro e w' ⟨rfl,rfl⟩)
   go_ret
   exact ⟨ret_bool (by unfold hasB;rw [e0,e1];rfl),rfl⟩
 ·have e0:decide (0≤i)=false:=by simp;omega
  go_enter Tryz.func139,Tryz.ntmps139
  go_wp2_with (go_at_call 120;refine (number_any _ _).mono ?_;rintro e w' ⟨rfl,rfl⟩)
  go_ret
  exact ⟨ret_bool (by unfold hasB;rw [e0];rfl),rfl⟩
theorem isNaN_any (a:Int) (w:World):Calls Tryz.prog 174 #[.int .i64 a] w fun e w'=>e=.returned (.bool false) ∧ w=w':=by
 go_enter Tryz.func174,Tryz.ntmps174
 go_wp2
 go_ret
 exact ⟨ret_bool (by simp),rfl⟩
theorem cmp_any (a b:Int) (w:World):Calls Tryz.prog 143 #[.int .i64 a,.int .i64 b] w fun e w'=>e=.returned (.int .i64 (cmpI a b)) ∧ w=w':=by
 by_cases h1:a<b
 ·go_enter Tryz.func143,Tryz.ntmps143
  go_wp2_with (go_at_call 174;refine (isNaN_any _ _).mono ?_;rintro e w' ⟨rfl,rfl⟩)
  go_ret
  exact ⟨ret_i64 (by unfold cmpI;(repeat' split) <;> omega),rfl⟩
 ·by_cases h2:b<a
  ·go_enter Tryz.func143,Tryz.ntmps143
   go_wp2_with (go_at_call 174;refine (isNaN_any _ _).mono ?_;rintro e w' ⟨rfl,rfl⟩)
   go_ret
   exact ⟨ret_i64 (by unfold cmpI;(repeat' split) <;> omega),rfl⟩
  ·go_enter Tryz.func143,Tryz.ntmps143
   go_wp2_with (go_at_call 174;refine (isNaN_any _ _).mono ?_;rintro e w' ⟨rfl,rfl⟩)
   go_ret
   exact ⟨ret_i64 (by unfold cmpI;(repeat' split) <;> omega),rfl⟩
theorem so_any (op c:Int) (w:World):Calls Tryz.prog 186 #[.int .i64 op,.int .i64 c] w fun e w'=>e=.returned (.bool (soB op c)) ∧ w=w':=by
 have key:(op=3 ∨ op=4 ∨ op=5 ∨ op=6 ∨ op=7 ∨ op=8) ∨ ((op == 3)=false ∧ (op == 4)=false ∧ (op == 5)=false ∧ (op == 6)=false ∧ (op == 7)=false ∧ (op == 8)=false):=by
  simp;omega
 rcases key with (rfl|rfl|rfl|rfl|rfl|rfl)|⟨h3,h4,h5,h6,h7,h8⟩
 all_goals
  go_enter Tryz.func186,Tryz.ntmps186
  go_wp2
  go_ret
  refine ⟨ret_bool ?_,rfl⟩
  first | rfl | (simp at h3 h4 h5 h6 h7 h8;simp [soB, *])
theorem arity_any (op:Int) (w:World):Calls Tryz.prog 188 #[.int .i64 op] w fun e w'=>e=.returned (.int .i64 (arity op)) ∧ w=w':=by
 have key:(1≤op ∧ op≤14) ∨ op=15 ∨ (19≤op ∧ op≤24) ∨ (16≤op ∧ op≤18) ∨ op=25 ∨ op=26 ∨ op<1 ∨ 26<op:=by omega
 rcases key with ⟨h1,h2⟩|rfl|⟨h1,h2⟩|⟨h1,h2⟩|rfl|rfl|h1|h1
 all_goals
  go_enter Tryz.func188,Tryz.ntmps188
  go_wp2
  all_goals go_ret
  all_goals refine ⟨ret_i64 ?_,rfl⟩
  all_goals (unfold arity;(repeat' split) <;> first | rfl | omega)
end
section
open Go.RowKit
def low (s:Int):Nat:=(s % 2147483648).toNat
theorem low_lt (s:Int):low s<2 ^ 31:=by unfold low;omega
theorem low_of (n:Nat) (h:n<2 ^ 31):low (n:Int)=n:=by unfold low;omega
def withB (s i:Int):Int:=if 0≤i ∧ i<31 then ((low s ||| 2 ^ i.toNat:Nat):Int) else (low s:Int)
def withoutB (s i:Int):Int:=if 0≤i ∧ i<31 then ((low s ^^^ (low s &&& 2 ^ i.toNat):Nat):Int) else (low s:Int)
theorem hasB_low (s:Int) (j:Nat) (hj:j<31):hasB s (j:Int)=(low s).testBit j:=by
 have h1:hasB s (j:Int)=(s / 2 ^ j % 2 == 1):=by
  unfold hasB
  rw [show decide (0≤(j:Int))=true by simp,show decide ((j:Int)<31)=true by simp;omega]
  rfl
 rw [h1,Nat.testBit_eq_decide_div_mod_eq]
 have hs:s=2 ^ j * (2 ^ (30 - j) * 2 * (s / 2147483648))+s % 2147483648:=by
  have e:(2:Int) ^ j * (2 ^ (30 - j) * 2 * (s / 2147483648))=(2 ^ j * 2 ^ (30 - j) * 2) * (s / 2147483648):=by
   rw [← Int.mul_assoc,← Int.mul_assoc]
  rw [e,← Int.pow_add,show j+(30 - j)=30 by omega]
  have:=Int.mul_ediv_add_emod s 2147483648
  omega
 have h2:s / 2 ^ j % 2=((low s / 2 ^ j % 2:Nat):Int):=by
  have hr:((low s:Nat):Int)=s % 2147483648:=by unfold low;omega
  rw [Int.natCast_emod,Int.natCast_ediv,hr]
  have hp:((2 ^ j:Nat):Int)=2 ^ j:=by simp
  rw [hp]
  conv=>lhs;rw [hs]
  rw [Int.add_comm,Int.add_mul_ediv_left _ _ (by have:(0:Int)<2 ^ j:=Int.pow_pos (by omega);omega)]
  rw [show (2:Int) ^ (30 - j) * 2 * (s / 2147483648)=2 * (2 ^ (30 - j) * (s / 2147483648)) by rw [Int.mul_comm ((2:Int) ^ (30 - j)) 2,Int.mul_assoc]]
  omega
 rw [h2]
 generalize low s / 2 ^ j % 2=n
 rw [Bool.eq_iff_iff]
 simp
 omega
theorem hasB_out (s j:Int) (hj:¬ (0≤j ∧ j<31)):hasB s j=false:=by
 unfold hasB
 by_cases h:0≤j
 ·rw [show decide (j<31)=false by simp;omega];simp
 ·rw [show decide (0≤j)=false by simp;omega];rfl
theorem hasB_with (s i j:Int):hasB (withB s i) j=((decide (0≤i ∧ i<31) && (j == i)) || hasB s j):=by
 by_cases hj:0≤j ∧ j<31
 ·obtain ⟨n,rfl⟩:∃ n:Nat,j=(n:Int):=⟨j.toNat,by omega⟩
  unfold withB
  by_cases hi:0≤i ∧ i<31
  ·obtain ⟨k,rfl⟩:∃ k:Nat,i=(k:Int):=⟨i.toNat,by omega⟩
   have hl:low s ||| 2 ^ k<2 ^ 31:=Nat.or_lt_two_pow (low_lt s) (Nat.pow_lt_pow_right (by omega) (by omega))
   rw [if_pos hi,Int.toNat_natCast,hasB_low _ _ (by omega),low_of _ hl,Nat.testBit_or,hasB_low _ _ (by omega),Nat.testBit_two_pow,Bool.or_comm]
   congr 1
   rw [Bool.eq_iff_iff]
   simp
   omega
  ·rw [if_neg hi,hasB_low _ _ (by omega),low_of _ (low_lt s),hasB_low _ _ (by omega)]
   simp [hi]
 ·rw [hasB_out _ _ hj,hasB_out _ _ hj,Bool.or_false]
  symm
  rw [Bool.and_eq_false_iff]
  by_cases hi:0≤i ∧ i<31
  ·right
   exact beq_eq_false_iff_ne.2 (by omega)
  ·left;simpa using hi
theorem hasB_without (s i j:Int):hasB (withoutB s i) j=(!(j == i) && hasB s j):=by
 by_cases hj:0≤j ∧ j<31
 ·obtain ⟨n,rfl⟩:∃ n:Nat,j=(n:Int):=⟨j.toNat,by omega⟩
  unfold withoutB
  by_cases hi:0≤i ∧ i<31
  ·obtain ⟨k,rfl⟩:∃ k:Nat,i=(k:Int):=⟨i.toNat,by omega⟩
   have hl:low s ^^^ (low s &&& 2 ^ k)<2 ^ 31:=Nat.xor_lt_two_pow (low_lt s) (Nat.lt_of_le_of_lt Nat.and_le_left (low_lt s))
   rw [if_pos hi,Int.toNat_natCast,hasB_low _ _ (by omega),low_of _ hl,Nat.testBit_xor,Nat.testBit_and,Nat.testBit_two_pow,hasB_low _ _ (by omega)]
   by_cases e:n=k
   ·subst e;cases (low s).testBit n <;> simp
   ·rw [show ((n:Int) == (k:Int))=false from beq_eq_false_iff_ne.2 (by omega),show decide (k=n)=false by simp;omega];simp
  ·rw [if_neg hi,hasB_low _ _ (by omega),low_of _ (low_lt s),hasB_low _ _ (by omega),show ((n:Int) == i)=false from beq_eq_false_iff_ne.2 (by omega)];rfl
 ·rw [hasB_out _ _ hj,hasB_out _ _ hj,Bool.and_false]
theorem ofInt_nat64 (a:Nat) (ha:a<2 ^ 64):(BitVec.ofInt 64 (a:Int)).toNat=a:=by
 rw [BitVec.ofInt_natCast,BitVec.toNat_ofNat];exact Nat.mod_eq_of_lt ha
theorem wrap_nat (n:Nat) (h:n<2 ^ 63):IntKind.i64.wrap (n:Int)=(n:Int):=by
 simp [IntKind.wrap,IntKind.bits,IntKind.signed]
 omega
theorem and_all (s:Int):bits .and .i64 s 2147483647=(low s:Int):=by
 show IntKind.i64.wrap ((BitVec.ofInt 64 s &&& BitVec.ofInt 64 2147483647).toNat:Int)=_
 have h:(BitVec.ofInt 64 s &&& BitVec.ofInt 64 2147483647).toNat=low s:=by
  rw [BitVec.toNat_and,show (BitVec.ofInt 64 2147483647).toNat=2 ^ 31 - 1 from rfl,Nat.and_two_pow_sub_one_eq_mod,BitVec.toNat_ofInt]
  unfold low
  omega
 rw [h]
 exact wrap_nat _ (Nat.lt_trans (low_lt s) (by decide))
theorem or_nat (a b:Nat) (ha:a<2 ^ 62) (hb:b<2 ^ 62):bits .or .i64 (a:Int) (b:Int)=((a ||| b:Nat):Int):=by
 show IntKind.i64.wrap ((BitVec.ofInt 64 (a:Int) ||| BitVec.ofInt 64 (b:Int)).toNat:Int)=_
 rw [BitVec.toNat_or,ofInt_nat64 a (by omega),ofInt_nat64 b (by omega)]
 exact wrap_nat _ (Nat.lt_trans (Nat.or_lt_two_pow ha hb) (by decide))
theorem andNot_nat (a b:Nat) (ha:a<2 ^ 62) (hb:b<2 ^ 62):bits .andNot .i64 (a:Int) (b:Int)=((a ^^^ (a &&& b):Nat):Int):=by
 show IntKind.i64.wrap ((BitVec.ofInt 64 (a:Int) &&& ~~~ BitVec.ofInt 64 (b:Int)).toNat:Int)=_
 have h:(BitVec.ofInt 64 (a:Int) &&& ~~~ BitVec.ofInt 64 (b:Int)).toNat=a ^^^ (a &&& b):=by
  apply Nat.eq_of_testBit_eq
  intro i
  rw [BitVec.toNat_and,Nat.testBit_and,ofInt_nat64 a (by omega),BitVec.testBit_toNat,BitVec.getLsbD_not,Nat.testBit_xor,Nat.testBit_and,← BitVec.testBit_toNat,ofInt_nat64 b (by omega)]
  by_cases hi:i<64
  ·simp [hi];cases a.testBit i <;> cases b.testBit i <;> rfl
  ·have:a.testBit i=false:=Nat.testBit_lt_two_pow (Nat.lt_of_lt_of_le ha (Nat.pow_le_pow_right (by omega) (by omega)))
   simp [this]
 rw [h]
 exact wrap_nat _ (Nat.lt_trans (Nat.xor_lt_two_pow ha (Nat.lt_of_le_of_lt Nat.and_le_left ha)) (by decide))
theorem pow_wrap (i:Int) (h0:0≤i) (h1:i<31):wrap64 (2 ^ i.toNat)=((2 ^ i.toNat:Nat):Int):=by
 have h2:(2:Nat) ^ i.toNat<2 ^ 31:=Nat.pow_lt_pow_right (by omega) (by omega)
 have e:(2:Int) ^ i.toNat=((2 ^ i.toNat:Nat):Int):=by simp
 rw [e]
 clear e
 generalize (2:Nat) ^ i.toNat=n at *
 exact IntWalk.wrap64_in _ ⟨by omega,by omega⟩
theorem with_any (s i:Int) (w:World):Calls Tryz.prog 91 #[.int .i64 s,.int .i64 i] w fun e w'=>e=.returned (.int .i64 (withB s i)) ∧ w=w':=by
 unfold withB
 by_cases h0:0≤i
 ·by_cases h1:i<31
  ·have e0:decide (0≤i)=true:=by simp;omega
   have e1:decide (i<31)=true:=by simp;omega
   rw [if_pos ⟨h0,h1⟩]
   go_enter Tryz.func91,Tryz.ntmps91
   go_wp2_with (go_at_call 120;refine (number_any _ _).mono ?_;rintro e w' ⟨rfl,rfl⟩)
   go_ret
   exact ⟨ret_i64 (by rw [and_all,pow_wrap i h0 h1,or_nat _ _ (Nat.lt_trans (low_lt s) (by decide)) (Nat.pow_lt_pow_right (by omega) (by omega))]),rfl⟩
  ·have e0:decide (0≤i)=true:=by simp;omega
   have e1:decide (i<31)=false:=by simp;omega
   rw [if_neg (by omega)]
   go_enter Tryz.func91,Tryz.ntmps91
   go_wp2_with (go_at_call 120;refine (number_any _ _).mono ?_;rintro e w' ⟨rfl,rfl⟩)
   go_ret
   exact ⟨ret_i64 (and_all s),rfl⟩
 ·have e0:decide (0≤i)=false:=by simp;omega
  rw [if_neg (by omega)]
  go_enter Tryz.func91,Tryz.ntmps91
  go_wp2_with (go_at_call 120;refine (number_any _ _).mono ?_;rintro e w' ⟨rfl,rfl⟩)
  go_ret
  exact ⟨ret_i64 (and_all s),rfl⟩
theorem without_any (s i:Int) (w:World):Calls Tryz.prog 113 #[.int .i64 s,.int .i64 i] w fun e w'=>e=.returned (.int .i64 (withoutB s i)) ∧ w=w':=by
 unfold withoutB
 by_cases h0:0≤i
 ·by_cases h1:i<31
  ·have e0:decide (0≤i)=true:=by simp;omega
   have e1:decide (i<31)=true:=by simp;omega
   rw [if_pos ⟨h0,h1⟩]
   go_enter Tryz.func113,Tryz.ntmps113
   go_wp2_with (go_at_call 120;refine (number_any _ _).mono ?_;rintro e w' ⟨rfl,rfl⟩)
   go_ret
   exact ⟨ret_i64 (by rw [and_all,pow_wrap i h0 h1,andNot_nat _ _ (Nat.lt_trans (low_lt s) (by decide)) (Nat.pow_lt_pow_right (by omega) (by omega))]),rfl⟩
  ·have e0:decide (0≤i)=true:=by simp;omega
   have e1:decide (i<31)=false:=by simp;omega
   rw [if_neg (by omega)]
   go_enter Tryz.func113,Tryz.ntmps113
   go_wp2_with (go_at_call 120;refine (number_any _ _).mono ?_;rintro e w' ⟨rfl,rfl⟩)
   go_ret
   exact ⟨ret_i64 (and_all s),rfl⟩
 ·have e0:decide (0≤i)=false:=by simp;omega
  rw [if_neg (by omega)]
  go_enter Tryz.func113,Tryz.ntmps113
  go_wp2_with (go_at_call 120;refine (number_any _ _).mono ?_;rintro e w' ⟨rfl,rfl⟩)
  go_ret
  exact ⟨ret_i64 (and_all s),rfl⟩
end
end
section
section
open Go.RowKit
abbrev eInst (x:Inst):List AV:=[eI x.op,eI x.la,eI x.ln,eI x.ra,eI x.rn,eI x.n,eI x.u]
abbrev sInsts (l:List Inst):AV:=.sl 7 (l.map eInst)
abbrev eGd (g:Gd):List AV:=[eI g.stage,eI g.event,sInsts g.cond]
abbrev eMl (g:Ml):List AV:=[eS g.name,eI g.stage,eI g.event,sInsts g.cond,eB g.final]
abbrev eEv (g:Ev):List AV:=[eS g.name,eI g.role,eI g.stage,sI g.sets,eI g.times]
abbrev eNI (p:ByteArray × Int):List AV:=[eS p.1,eI p.2]
abbrev eII (p:Int × Int):List AV:=[eI p.1,eI p.2]
abbrev eBI (p:Bool × Int):List AV:=[eB p.1,eI p.2]
abbrev eMod (m:Mod):List AV:=[.sl 1 (m.attrs.map fun s=>[eS s]),sI m.inits,.sl 1 (m.users.map fun s=>[eS s]),.sl 2 (m.roles.map eNI),.sl 2 (m.stages.map eNI),.sl 5 (m.events.map eEv),.sl 3 (m.guards.map eGd),.sl 5 (m.miles.map eMl),.sl 2 (m.sods.map eII),.sl 2 (m.order.map eBI)]
abbrev eSt (s:St):List AV:=[sI s.vals,eI s.opn,eI s.don,sI s.did,sI s.cnt]
def pars (m:Mod):List Int:=m.stages.map (·.2)
def condOk (m:Mod):Prop:=(∀ g ∈ m.guards,∀ x ∈ g.cond,x.ok) ∧ ∀ g ∈ m.miles,∀ x ∈ g.cond,x.ok
theorem mixedT:Tryz.prog.follows .mixedOrders=true:=by kernel_rfl
def greatS (m:Mod):Prop:=m.guards.length≤14 ∧ m.miles.length≤10 ∧ m.stages.length≤10 ∧ m.events.length≤10 ∧ m.attrs.length≤10 ∧ m.users.length≤10 ∧ m.roles.length≤10 ∧ m.sods.length≤10 ∧ m.order.length≤40 ∧ m.inits.length≤10
structure Fit (m:Mod):Prop where
 sizes:greatS m
 guards:∀ g ∈ m.guards,g.cond.length≤80
 miles:∀ g ∈ m.miles,g.cond.length≤80
 events:∀ g ∈ m.events,g.sets.length≤10
def FitS (s:St):Prop:=s.vals.length≤150 ∧ s.did.length≤150 ∧ s.cnt.length≤150
theorem great12_A (m:Mod):ARel Tryz.prog 4 [.agg (eMod m)] fun R=>∃ b,R=val (.bool b) ∧ (b=false → Fit m):=by
 refine arel_of_code mixedT Tryz.func4 rfl (by decide) Tryz.ntmps4 Tryz.results4 rfl ?_
 (repeat' (first|refine go ?_ | exact .intro | refine sp (fun _=>?_) fun _=>?_))
 all_goals first | with_reducible exact retV ⟨true,rfl,fun h=>by cases h⟩ | skip
 have hS:greatS m:=by simp_all [greatS];omega
 obtain ⟨h1,h2,h3,h4,h5,h6,h7,h8,h9,h10⟩:=id hS
 refine aLoop_of (fun st=>∃ k:Nat,k≤m.guards.length ∧ (∀ i (h:i<m.guards.length),i<k → m.guards[i].cond.length≤80) ∧ st=⟨109,[(1,.op 0 0 0),(3,eI (k:Int))],[(0,some (.box 32 (eMod m)))],1⟩) (fun st=>m.guards.length - slotN st 3) ⟨_,wC,0,Nat.zero_le _,?_,rfl⟩ ?_
 ·exact fun i h h2=>absurd h2 (by omega)
 rintro _ ⟨k,hk,hg,rfl⟩
 by_cases hlt:k<m.guards.length
 ·(repeat' (first|refine go ?_|simp only [row_at,hlt] | exact .intro | refine sp (fun _=>?_) fun _=>?_))
  ·with_reducible exact retV ⟨true,rfl,fun h=>by cases h⟩
  ·rename_i hc
   refine rI wC ⟨k+1,by omega,fun i h h2=>?_,rfl⟩
   rcases Nat.lt_or_ge i k with h3|h3
   ·exact hg i h h3
   ·obtain rfl:i=k:=by omega
    simp at hc
    omega
 simp -implicitDefEqProofs (maxSteps:=5000000) only [ruX,↓reduceIte,reduceCtorEq,Nat.reduceLT,Nat.reduceEqDiff,Nat.reduceAdd,Nat.reduceMul,Nat.reduceSub,Nat.reduceLeDiff,Nat.reduceBEq,row_at,hlt]
 refine aLoop_of (fun st=>∃ q:Nat,q≤m.miles.length ∧ (∀ i (h:i<m.miles.length),i<q → m.miles[i].cond.length≤80) ∧ st=⟨109,[(1,.op 0 0 0),(4,eI (q:Int))],[(0,some (.box 32 (eMod m)))],1⟩) (fun st=>m.miles.length - slotN st 4) ⟨_,wC,0,Nat.zero_le _,?_,rfl⟩ ?_
 ·exact fun i h h2=>absurd h2 (by omega)
 rintro _ ⟨q,hq,hm,rfl⟩
 by_cases hlt2:q<m.miles.length
 ·(repeat' (first|refine go ?_|simp only [row_at,hlt2] | exact .intro | refine sp (fun _=>?_) fun _=>?_))
  ·with_reducible exact retV ⟨true,rfl,fun h=>by cases h⟩
  ·rename_i hc
   refine rI wC ⟨q+1,by omega,fun i h h2=>?_,rfl⟩
   rcases Nat.lt_or_ge i q with h3|h3
   ·exact hm i h h3
   ·obtain rfl:i=q:=by omega
    simp at hc
    omega
 simp -implicitDefEqProofs (maxSteps:=5000000) only [ruX,↓reduceIte,reduceCtorEq,Nat.reduceLT,Nat.reduceEqDiff,Nat.reduceAdd,Nat.reduceMul,Nat.reduceSub,Nat.reduceLeDiff,Nat.reduceBEq,row_at,hlt2]
 refine aLoop_of (fun st=>∃ r:Nat,r≤m.events.length ∧ (∀ i (h:i<m.events.length),i<r → m.events[i].sets.length≤10) ∧ st=⟨109,[(1,.op 0 0 0),(5,eI (r:Int))],[(0,some (.box 32 (eMod m)))],1⟩) (fun st=>m.events.length - slotN st 5) ⟨_,wC,0,Nat.zero_le _,?_,rfl⟩ ?_
 ·exact fun i h h2=>absurd h2 (by omega)
 rintro _ ⟨r,hr,he,rfl⟩
 by_cases hlt3:r<m.events.length
 ·(repeat' (first|refine go ?_|simp only [row_at,hlt3] | exact .intro | refine sp (fun _=>?_) fun _=>?_))
  ·with_reducible exact retV ⟨true,rfl,fun h=>by cases h⟩
  ·rename_i hc
   refine rI wC ⟨r+1,by omega,fun i h h2=>?_,rfl⟩
   rcases Nat.lt_or_ge i r with h3|h3
   ·exact he i h h3
   ·obtain rfl:i=r:=by omega
    simp at hc
    omega
 simp -implicitDefEqProofs (maxSteps:=5000000) only [ruX,↓reduceIte,reduceCtorEq,Nat.reduceLT,Nat.reduceEqDiff,Nat.reduceAdd,Nat.reduceMul,Nat.reduceSub,Nat.reduceLeDiff,Nat.reduceBEq,row_at,hlt3]
 refine retV ⟨false,rfl,fun _=>⟨hS,fun g hg'=>?_,fun g hg'=>?_,fun g hg'=>?_⟩⟩
 ·obtain ⟨i,hi,rfl⟩:=List.getElem_of_mem hg'
  exact hg i hi (by omega)
 ·obtain ⟨i,hi,rfl⟩:=List.getElem_of_mem hg'
  exact hm i hi (by omega)
 ·obtain ⟨i,hi,rfl⟩:=List.getElem_of_mem hg'
  exact he i hi (by omega)
def inB (n most:Int):Bool:=decide (0≤n) && decide (n<most)
theorem in_A (n most:Int):ADet Tryz.prog 29 [eI n,eI most] (val (.bool (inB n most))):=by
 refine adet_of_code mixedT Tryz.func29 rfl (by decide) Tryz.ntmps29 Tryz.results29 rfl (val_ok _) ?_
 simp -implicitDefEqProofs (maxSteps:=5000000) only [ruX,↓reduceIte,reduceCtorEq,Nat.reduceLT,Nat.reduceEqDiff,Nat.reduceAdd,Nat.reduceMul,Nat.reduceSub,Nat.reduceLeDiff,Nat.reduceBEq]
 unfold inB
 with_reducible refine aGd_split (fun h=>?_) (fun h=>?_) <;> simp -implicitDefEqProofs (maxSteps:=5000000) only [ruX,↓reduceIte,reduceCtorEq,Nat.reduceLT,Nat.reduceEqDiff,Nat.reduceAdd,Nat.reduceMul,Nat.reduceSub,Nat.reduceLeDiff,Nat.reduceBEq] <;> simp at h <;> simp [h] <;> omega
theorem sets_A (m:Mod) (l:List Int) (hl:l.length≤1000000) (b:Bool) (hb:b=true ↔ ∀ i (h:i<l.length),inB l[i] m.attrs.length=true ∧ ∀ j (h:j<i),l[j] ≠ l[i]):ADet Tryz.prog 30 [.agg (eMod m),sI l] (val (.bool b)):=by
 refine adet_of_code mixedT Tryz.func30 rfl (by decide) Tryz.ntmps30 Tryz.results30 rfl (val_ok _) ?_
 simp -implicitDefEqProofs (maxSteps:=5000000) only [ruX,↓reduceIte,reduceCtorEq,Nat.reduceLT,Nat.reduceEqDiff,Nat.reduceAdd,Nat.reduceMul,Nat.reduceSub,Nat.reduceLeDiff,Nat.reduceBEq]
 refine aLoop_of (fun st=>∃ k:Nat,k≤l.length ∧ (∀ i (h:i<l.length),i<k → inB l[i] m.attrs.length=true ∧ ∀ j (h:j<i),l[j] ≠ l[i]) ∧ st=⟨36,[(1,sI l),(2,.op 0 0 0),(5,eI k)],[(0,some (.box 32 (eMod m)))],1⟩) (fun st=>l.length - slotN st 5)
  ⟨_,wC,0,Nat.zero_le _,fun i h1 h2=>absurd h2 (by omega),rfl⟩ ?_
 rintro _ ⟨k,hk,hI,rfl⟩
 by_cases hlt:k<l.length
 ·simp -implicitDefEqProofs (maxSteps:=5000000) only [ruX,↓reduceIte,reduceCtorEq,Nat.reduceLT,Nat.reduceEqDiff,Nat.reduceAdd,Nat.reduceMul,Nat.reduceSub,Nat.reduceLeDiff,Nat.reduceBEq,row_at,hlt]
  refine aDraw_quiet (by kernel_rfl) ?_
  simp -implicitDefEqProofs (maxSteps:=5000000) only [ruX,↓reduceIte,reduceCtorEq,Nat.reduceLT,Nat.reduceEqDiff,Nat.reduceAdd,Nat.reduceMul,Nat.reduceSub,Nat.reduceLeDiff,Nat.reduceBEq,row_at,hlt]
  refine callD (in_A _ _) ?_
  simp -implicitDefEqProofs (maxSteps:=5000000) only [ruX,↓reduceIte,reduceCtorEq,Nat.reduceLT,Nat.reduceEqDiff,Nat.reduceAdd,Nat.reduceMul,Nat.reduceSub,Nat.reduceLeDiff,Nat.reduceBEq,row_at,hlt]
  with_reducible refine aIf_split (fun hin=>?_) (fun hin=>?_) <;> simp -implicitDefEqProofs (maxSteps:=5000000) only [ruX,↓reduceIte,reduceCtorEq,Nat.reduceLT,Nat.reduceEqDiff,Nat.reduceAdd,Nat.reduceMul,Nat.reduceSub,Nat.reduceLeDiff,Nat.reduceBEq,row_at,hlt]
  ·simp at hin
   symm
   rw [Bool.eq_false_iff]
   intro hbt
   have:=(hb.1 hbt k hlt).1
   rw [hin] at this
   cases this
  ·simp at hin
   refine aLoop_of (fun st=>∃ q:Nat,q≤k ∧ (∀ j (h:j<k),j<q → l[j] ≠ l[k]) ∧ st=⟨36,[(1,sI l),(2,.op 0 0 0),(5,eI k),(6,eI q)],[(0,some (.box 32 (eMod m)))],1⟩) (fun st=>k - slotN st 6)
    ⟨_,wC,0,Nat.zero_le _,fun i h1 h2=>absurd h2 (by omega),rfl⟩ ?_
   rintro _ ⟨q,hq,hJ,rfl⟩
   by_cases hqk:q<k
   ·have hql:q<l.length:=by omega
    simp -implicitDefEqProofs (maxSteps:=5000000) only [ruX,↓reduceIte,reduceCtorEq,Nat.reduceLT,Nat.reduceEqDiff,Nat.reduceAdd,Nat.reduceMul,Nat.reduceSub,Nat.reduceLeDiff,Nat.reduceBEq,row_at,hlt,hqk,hql]
    refine aDraw_quiet (by kernel_rfl) ?_
    simp -implicitDefEqProofs (maxSteps:=5000000) only [ruX,↓reduceIte,reduceCtorEq,Nat.reduceLT,Nat.reduceEqDiff,Nat.reduceAdd,Nat.reduceMul,Nat.reduceSub,Nat.reduceLeDiff,Nat.reduceBEq,row_at,hlt,hqk,hql]
    with_reducible refine aIf_split (fun he=>?_) (fun he=>?_) <;> simp -implicitDefEqProofs (maxSteps:=5000000) only [ruX,↓reduceIte,reduceCtorEq,Nat.reduceLT,Nat.reduceEqDiff,Nat.reduceAdd,Nat.reduceMul,Nat.reduceSub,Nat.reduceLeDiff,Nat.reduceBEq,row_at,hlt,hqk,hql]
    ·symm
     rw [Bool.eq_false_iff]
     intro hbt
     exact (hb.1 hbt k hlt).2 q hqk (by simpa using he)
    ·refine roundI wC ⟨q+1,by omega,fun j h1 h2=>?_,rfl⟩ ?_
     ·simp at he
      rcases Nat.lt_or_ge j q with h3|h3
      ·exact hJ j h1 h3
      ·obtain rfl:j=q:=by omega
       exact he
     ·exact (by simp only [slotN,ruW,ASt.get,aget,ASt.put,↓reduceIte,reduceCtorEq,Nat.reduceLT,Nat.reduceEqDiff,Nat.reduceAdd,Nat.reduceLeDiff,eq_self,implies_true];omega)
   ·simp -implicitDefEqProofs (maxSteps:=5000000) only [ruX,↓reduceIte,reduceCtorEq,Nat.reduceLT,Nat.reduceEqDiff,Nat.reduceAdd,Nat.reduceMul,Nat.reduceSub,Nat.reduceLeDiff,Nat.reduceBEq,row_at,hlt,hqk]
    refine roundI wC ⟨k+1,by omega,fun j h1 h2=>?_,rfl⟩ ?_
    ·rcases Nat.lt_or_ge j k with h3 | h3
     ·exact hI j h1 h3
     ·obtain rfl:j=k:=by omega
      exact ⟨hin,fun i hi=>hJ i hi (by omega)⟩
    ·exact (by simp only [slotN,ruW,ASt.get,aget,ASt.put,↓reduceIte,reduceCtorEq,Nat.reduceLT,Nat.reduceEqDiff,Nat.reduceAdd,Nat.reduceLeDiff,eq_self,implies_true];omega)
 ·simp -implicitDefEqProofs (maxSteps:=5000000) only [ruX,↓reduceIte,reduceCtorEq,Nat.reduceLT,Nat.reduceEqDiff,Nat.reduceAdd,Nat.reduceMul,Nat.reduceSub,Nat.reduceLeDiff,Nat.reduceBEq,row_at,hlt]
  symm
  exact hb.2 fun i h=>hI i h (by omega)
theorem same03_A (a b:List Int) (ha:a.length≤1000000):ADet Tryz.prog 27 [sI a,sI b] (val (.bool (decide (a=b)))):=by
 refine adet_of_code mixedT Tryz.func27 rfl (by decide) Tryz.ntmps27 Tryz.results27 rfl (val_ok _) ?_
 simp -implicitDefEqProofs (maxSteps:=5000000) only [ruX,↓reduceIte,reduceCtorEq,Nat.reduceLT,Nat.reduceEqDiff,Nat.reduceAdd,Nat.reduceMul,Nat.reduceSub,Nat.reduceLeDiff,Nat.reduceBEq]
 with_reducible refine aIf_split (fun he=>?_) (fun he=>?_) <;> simp -implicitDefEqProofs (maxSteps:=5000000) only [ruX,↓reduceIte,reduceCtorEq,Nat.reduceLT,Nat.reduceEqDiff,Nat.reduceAdd,Nat.reduceMul,Nat.reduceSub,Nat.reduceLeDiff,Nat.reduceBEq]
 ·symm
  rw [decide_eq_false_iff_not]
  rintro rfl
  simp at he
 have hl:a.length=b.length:=by simp at he;omega
 refine aLoop_of (fun st=>∃ k:Nat,k≤a.length ∧ (∀ i (h:i<a.length) (h2:i<b.length),i<k → a[i]=b[i]) ∧ st=⟨26,[(0,sI a),(1,sI b),(5,eI (k:Int))],[],0⟩) (fun st=>a.length - slotN st 5) ⟨_,wC,0,Nat.zero_le _,?_,rfl⟩ ?_
 ·exact fun i h h2 h3=>absurd h3 (by omega)
 rintro _ ⟨k,hk,hI,rfl⟩
 by_cases hlt:k<a.length
 ·have hlt2:k<b.length:=by omega
  simp -implicitDefEqProofs (maxSteps:=5000000) only [ruX,↓reduceIte,reduceCtorEq,Nat.reduceLT,Nat.reduceEqDiff,Nat.reduceAdd,Nat.reduceMul,Nat.reduceSub,Nat.reduceLeDiff,Nat.reduceBEq,row_at,hlt,hlt2]
  refine aDraw_quiet (by kernel_rfl) ?_
  simp -implicitDefEqProofs (maxSteps:=5000000) only [ruX,↓reduceIte,reduceCtorEq,Nat.reduceLT,Nat.reduceEqDiff,Nat.reduceAdd,Nat.reduceMul,Nat.reduceSub,Nat.reduceLeDiff,Nat.reduceBEq,row_at,hlt,hlt2]
  with_reducible refine aIf_split (fun hn=>?_) (fun hn=>?_) <;> simp -implicitDefEqProofs (maxSteps:=5000000) only [ruX,↓reduceIte,reduceCtorEq,Nat.reduceLT,Nat.reduceEqDiff,Nat.reduceAdd,Nat.reduceMul,Nat.reduceSub,Nat.reduceLeDiff,Nat.reduceBEq,row_at,hlt,hlt2]
  ·symm
   rw [decide_eq_false_iff_not]
   rintro rfl
   simp at hn
  ·refine rI wC ⟨k+1,by omega,fun i h h2 h3=>?_,rfl⟩
   rcases Nat.lt_or_ge i k with h4|h4
   ·exact hI i h h2 h4
   ·obtain rfl:i=k:=by omega
    simpa using hn
 ·simp -implicitDefEqProofs (maxSteps:=5000000) only [ruX,↓reduceIte,reduceCtorEq,Nat.reduceLT,Nat.reduceEqDiff,Nat.reduceAdd,Nat.reduceMul,Nat.reduceSub,Nat.reduceLeDiff,Nat.reduceBEq,row_at,hlt]
  symm
  rw [decide_eq_true_iff]
  exact List.ext_getElem hl fun i h1 h2=>hI i h1 h2 (by omega)
end
section
theorem nodup_len:∀ (n:Nat) (l:List Int),l.Nodup → (∀ x ∈ l,0≤x ∧ x<(n:Int)) → l.length≤n:=by
 intro n
 induction n with
 | zero=>
  intro l _ h
  cases l with
  | nil=>simp
  | cons x l=>have:=h x (by simp);omega
 | succ n ih=>
  intro l hn h
  by_cases hm:(n:Int) ∈ l
  ·have h1:=ih (l.erase (n:Int)) (hn.erase _) (fun x hx=>by
    have:=(hn.mem_erase_iff).1 hx
    have:=h x this.2
    omega)
   rw [List.length_erase_of_mem hm] at h1
   omega
  ·have:=ih l hn (fun x hx=>by
    have h2:=h x hx
    have:x ≠ (n:Int):=fun e=>hm (e ▸ hx)
    omega)
   omega
def isAt (l:List Int) (i:Int):Prop:=0≤i ∧ i<(l.length:Int)
instance (l:List Int) (i:Int):Decidable (isAt l i):=by unfold isAt;infer_instance
def norm (l:List Int) (i:Int):Int:=if isAt l i then i else -1
def par (l:List Int) (i:Int):Int:=if isAt l i then norm l (l.getD i.toNat 0) else -1
def upN (l:List Int) (i:Int):Nat → Int
 | 0=>norm l i
 | k+1=>par l (upN l i k)
def goUp (l:List Int) (i:Int):Nat → Int → List Int → List Int
 | 0,_,out=>out
 | f+1,p,out=>if par l p = -1 ∨ par l p=i ∨ par l p ∈ out then out else goUp l i f (par l p) (out ++ [par l p])
def aboveL (l:List Int) (i:Int):List Int:=goUp l i l.length i []
theorem norm_cases (l:List Int) (i:Int):(isAt l i ∧ norm l i=i) ∨ (¬ isAt l i ∧ norm l i = -1):=by
 unfold norm;split <;> simp [*]
theorem norm_at (l:List Int) (i:Int):norm l i = -1 ∨ isAt l (norm l i):=by
 rcases norm_cases l i with ⟨h,e⟩|⟨_,e⟩ <;> rw [e]
 ·exact .inr h
 ·exact .inl rfl
theorem par_at (l:List Int) (i:Int):par l i = -1 ∨ isAt l (par l i):=by
 unfold par;split
 ·exact norm_at _ _
 ·exact .inl rfl
theorem par_norm (l:List Int) (i:Int):par l (norm l i)=par l i:=by
 rcases norm_cases l i with ⟨h,e⟩|⟨h,e⟩
 ·rw [e]
 ·rw [e];unfold par;rw [if_neg h,if_neg (by simp [isAt])]
theorem par_none (l:List Int):par l (-1) = -1:=by unfold par;rw [if_neg (by simp [isAt])]
theorem upN_none (l:List Int) (i:Int) (k:Nat) (h:upN l i k = -1):∀ d,upN l i (k+d) = -1
 | 0=>h
 | d+1=>by rw [← Nat.add_assoc,upN,upN_none l i k h d,par_none]
theorem upN_one (l:List Int) (i:Int):upN l i 1=par l i:=par_norm l i
structure UpAt (l:List Int) (i:Int) (m:Nat) (p:Int) (out:List Int):Prop where
 len:out.length=m
 eq:∀ j,j<m → out[j]? = some (upN l i (j+1))
 cur:par l p=upN l i (m+1)
 nodup:out.Nodup
 at_:∀ x ∈ out,isAt l x
 not:i ∉ out
 room:m≤l.length
 rest:goUp l i (l.length - m) p out=aboveL l i
theorem UpAt.start (l:List Int) (i:Int):UpAt l i 0 i []:=
 ⟨rfl,fun j h=>by omega,(upN_one l i).symm,List.nodup_nil,fun x h=>by simp at h,by simp,by omega,rfl⟩
def stops (l:List Int) (i:Int) (p:Int) (out:List Int):Prop:=par l p = -1 ∨ par l p=i ∨ par l p ∈ out
instance (l:List Int) (i p:Int) (out:List Int):Decidable (stops l i p out):=by unfold stops;infer_instance
theorem UpAt.stop {l:List Int} {i:Int} {m:Nat} {p:Int} {out:List Int} (h:UpAt l i m p out) (hs:stops l i p out):out=aboveL l i:=by
 rw [← h.rest]
 cases l.length - m with
 | zero=>rfl
 | succ f=>rw [goUp];exact (if_pos hs).symm
theorem UpAt.next {l:List Int} {i:Int} {m:Nat} {p:Int} {out:List Int} (h:UpAt l i m p out) (hs:¬ stops l i p out):UpAt l i (m+1) (par l p) (out ++ [par l p]) ∧ m+1≤l.length:=by
 unfold stops at hs
 simp only [not_or] at hs
 have hat:isAt l (par l p):=(par_at l p).resolve_left hs.1
 have hnd:(out ++ [par l p]).Nodup:=by
  rw [List.nodup_append]
  refine ⟨h.nodup,by simp,fun a ha b hb e=>?_⟩
  simp at hb
  subst hb;subst e
  exact hs.2.2 ha
 have hall:∀ x ∈ out ++ [par l p],isAt l x:=by
  intro x hx
  rcases List.mem_append.1 hx with hx|hx
  ·exact h.at_ x hx
  ·simp at hx;subst hx;exact hat
 have hlen:m+1≤l.length:=by
  have:=nodup_len l.length _ hnd hall
  simp [h.len] at this
  exact this
 refine ⟨⟨by simp [h.len],fun j hj=>?_,by rw [show upN l i (m+1+1)=par l (upN l i (m+1)) from rfl,h.cur],hnd,hall,?_,hlen,?_⟩,hlen⟩
 ·by_cases hjm:j<m
  ·rw [List.getElem?_append_left (by rw [h.len];exact hjm)];exact h.eq j hjm
  ·have:j=m:=by omega
   subst this
   rw [List.getElem?_append_right (by rw [h.len];omega),h.len,Nat.sub_self]
   simp [h.cur]
 ·intro hi
  rcases List.mem_append.1 hi with hi|hi
  ·exact h.not hi
  ·simp at hi;exact hs.2.1 hi.symm
 ·have:=h.rest
  rw [show l.length - m=(l.length - (m+1))+1 from by omega,goUp,if_neg (by simp only [not_or];exact hs)] at this
  exact this
theorem up_end (l:List Int) (i:Int):∃ m p,UpAt l i m p (aboveL l i) ∧ stops l i p (aboveL l i):=by
 have key:∀ (f m:Nat) (p:Int) (out:List Int),UpAt l i m p out → l.length+1 - m≤f → ∃ m p,UpAt l i m p (aboveL l i) ∧ stops l i p (aboveL l i):=by
  intro f
  induction f with
  | zero=>intro m p out h hf;have:=h.room;omega
  | succ f ih=>
   intro m p out h hf
   by_cases hs:stops l i p out
   ·have e:=h.stop hs
    rw [e] at h hs
    exact ⟨m,p,h,hs⟩
   ·have:=(h.next hs).1
    exact ih _ _ _ this (by omega)
 exact key _ 0 i [] (UpAt.start l i) (Nat.le_refl _)
def circ (l:List Int) (i:Int):Prop:=isAt l i ∧ par l (((aboveL l i).getLast?).getD i)=i
instance (l:List Int) (i:Int):Decidable (circ l i):=by unfold circ;infer_instance
theorem last_cur {l:List Int} {i:Int} {m:Nat} {p:Int} {out:List Int} (h:UpAt l i m p out):par l ((out.getLast?).getD i)=upN l i (m+1):=by
 cases m with
 | zero=>
  have:out=[]:=List.eq_nil_of_length_eq_zero h.len
  subst this
  exact (upN_one l i).symm
 | succ m=>
  have h1:=h.eq m (by omega)
  rw [List.getLast?_eq_getElem?,h.len,Nat.add_sub_cancel,h1]
  rfl
theorem up_all {l:List Int} {i:Int} {m:Nat} {p:Int} (h:UpAt l i m p (aboveL l i)) (hs:stops l i p (aboveL l i)) (hc:upN l i (m+1) ≠ i ∨ i = -1):∀ j,upN l i (j+1) = -1 ∨ upN l i (j+1) ∈ aboveL l i:=by
 have hst:upN l i (m+1) = -1 ∨ upN l i (m+1) ∈ aboveL l i:=by
  rw [← h.cur]
  rcases hs with hs|hs|hs
  ·exact .inl hs
  ·rw [h.cur] at hs
   rcases hc with hc|hc
   ·exact absurd hs hc
   ·rw [h.cur,hs,hc];exact .inl rfl
  ·exact .inr hs
 intro j
 induction j with
 | zero=>
  cases m with
  | zero=>exact hst
  | succ m=>exact .inr (List.mem_of_getElem? (h.eq 0 (by omega)))
 | succ j ih=>
  rcases ih with ih|ih
  ·left;rw [upN,ih,par_none]
  ·obtain ⟨a,ha⟩:=List.mem_iff_getElem?.1 ih
   have ham:a<m:=by rw [← h.len];exact (List.getElem?_eq_some_iff.1 ha).1
   rw [h.eq a ham] at ha
   have e:upN l i (j+1+1)=upN l i (a+1+1):=by
    show par l (upN l i (j+1))=par l (upN l i (a+1))
    rw [Option.some.inj ha]
   rw [e]
   by_cases ham2:a+1<m
   ·exact .inr (List.mem_of_getElem? (h.eq (a+1) ham2))
   ·have:a+1=m:=by omega
    rw [this];exact hst
theorem mem_above_up {l:List Int} {i:Int} {x:Int} (hx:x ∈ aboveL l i):∃ j,1≤j ∧ j≤l.length ∧ upN l i j=x:=by
 obtain ⟨m,p,h,_⟩:=up_end l i
 obtain ⟨a,ha⟩:=List.mem_iff_getElem?.1 hx
 have ham:a<m:=by rw [← h.len];exact (List.getElem?_eq_some_iff.1 ha).1
 rw [h.eq a ham] at ha
 exact ⟨a+1,by omega,by have:=h.room;omega,Option.some.inj ha⟩
theorem mem_above (l:List Int) (i x:Int) (hx:0≤x) (hne:i ≠ x):x ∈ aboveL l i ↔ ∃ j,1≤j ∧ j≤l.length ∧ upN l i j=x:=by
 refine ⟨mem_above_up,fun ⟨j,h1,h2,h3⟩=>?_⟩
 obtain ⟨m,p,h,hs⟩:=up_end l i
 by_cases hc:upN l i (m+1)=i
 ·
  have key:∀ j,upN l i (j+1) ∈ aboveL l i ∨ upN l i (j+1)=i ∨ upN l i (j+1) = -1:=by
   intro j
   induction j with
   | zero=>
    cases m with
    | zero=>exact .inr (.inl hc)
    | succ m=>exact .inl (List.mem_of_getElem? (h.eq 0 (by omega)))
   | succ j ih=>
    rcases ih with ih|ih|ih
    ·obtain ⟨a,ha⟩:=List.mem_iff_getElem?.1 ih
     have ham:a<m:=by rw [← h.len];exact (List.getElem?_eq_some_iff.1 ha).1
     rw [h.eq a ham] at ha
     have e:upN l i (j+1+1)=upN l i (a+1+1):=by
      show par l (upN l i (j+1))=par l (upN l i (a+1))
      rw [Option.some.inj ha]
     rw [e]
     by_cases ham2:a+1<m
     ·exact .inl (List.mem_of_getElem? (h.eq (a+1) ham2))
     ·have:a+1=m:=by omega
      rw [this];exact .inr (.inl hc)
    ·have e:upN l i (j+1+1)=upN l i 1:=by
      show par l (upN l i (j+1))=upN l i 1
      rw [ih,upN_one]
     rw [e]
     cases m with
     | zero=>exact .inr (.inl hc)
     | succ m=>exact .inl (List.mem_of_getElem? (h.eq 0 (by omega)))
    ·right;right;rw [upN,ih,par_none]
  have:=key (j - 1)
  rw [show j - 1+1=j from by omega,h3] at this
  rcases this with this|this|this
  ·exact this
  ·exact absurd this.symm hne
  ·omega
 ·have:=up_all h hs (.inl hc) (j - 1)
  rw [show j - 1+1=j from by omega,h3] at this
  rcases this with this|this
  ·omega
  ·exact this
theorem circ_iff (l:List Int) (i:Int) (hi:isAt l i):circ l i ↔ ∃ j,1≤j ∧ j≤l.length ∧ upN l i j=i:=by
 obtain ⟨m,p,h,hs⟩:=up_end l i
 unfold circ
 rw [last_cur h]
 refine ⟨fun hh=>⟨m+1,by omega,?_,hh.2⟩,fun ⟨j,h1,h2,h3⟩=>⟨hi,?_⟩⟩
 ·have hnd:(i :: aboveL l i).Nodup:=List.nodup_cons.2 ⟨h.not,h.nodup⟩
  have:=nodup_len l.length _ hnd (fun x hx=>by
   rcases List.mem_cons.1 hx with rfl|hx
   ·exact hi
   ·exact h.at_ x hx)
  simp [h.len] at this
  omega
 ·by_cases hc:upN l i (m+1)=i
  ·exact hc
  ·have:=up_all h hs (.inl hc) (j - 1)
   rw [show j - 1+1=j from by omega,h3] at this
   rcases this with this|this
   ·have:=hi.1;omega
   ·exact absurd this h.not
def circleL (l:List Int):Int:=(((List.range l.length).find? fun (i:Nat)=>decide (circ l (i:Int))).map fun (i:Nat)=>(i:Int)).getD (-1)
def belowL (l:List Int) (i:Int):List Int:=if isAt l i then (((List.range l.length).filter fun (k:Nat)=>decide ((k:Int) ≠ i ∧ i ∈ aboveL l (k:Int))).map fun (k:Nat)=>(k:Int)) else []
def isL (l:List Int) (a i:Int):Prop:=∃ j,1≤j ∧ j≤l.length ∧ 0≤a ∧ upN l i j=a
end
section
open Go.ChangeShapes Go.WideShapes Go.ChangeAt Go.RowKit
theorem lawOwn:ownKnob Tryz.prog.godebug=none:=by kernel_rfl
theorem lawLaid:laidOutB Tryz.prog=true:=by kernel_rfl
theorem lawBool:Tryz.prog.underlying 4=some .bool:=Tryz.underlying4
theorem trodAll_below {H:Type} {enc:TypeId × Value → H} {P:Program} (hl:laidOutB P=true) {W W':World} (hb:Below W.heap.size W W') (sp:Nat → Bool) :
  ∀ {ts:List TypeId} {vs:List Value} {ds:List (DataW H)} {ps:List MemPlace},(ts.all fun t=>P.readableRec t && decide (t<P.types.size))=true →
   DataW.TrodAll enc P W 0 (fun _=>true) true ts vs ds ps → (∀ x ∈ ps,x.block<W.heap.size) → (∀ p ∈ ps,sp p.block=true) → DataW.TrodAll enc P W' 0 sp true ts vs ds ps
 | [],[],[],_,_,h,_,_=>h
 | t :: ts,v :: vs,d :: ds,ps,ht,h,hlt,hs=>by
  obtain ⟨p,q,h1,h2,rfl⟩:=h
  simp only [List.all_cons,Bool.and_eq_true,decide_eq_true_eq] at ht
  refine ⟨p,q,WideElems.Trod_stays hl ht.1.1 ht.1.2 h1 (fun x hx=>hb.same (hlt x (List.mem_append.2 (.inl hx)))) (fun x hx=>hs x (List.mem_append.2 (.inl hx))),?_,rfl⟩
  exact trodAll_below hl hb sp (by simpa using ht.2) h2 (fun x hx=>hlt x (List.mem_append.2 (.inr hx))) (fun x hx=>hs x (List.mem_append.2 (.inr hx)))
 | [],[],_ :: _,_,_,h,_,_=>h.elim
 | [],_ :: _,_,_,_,h,_,_=>h.elim
 | _ :: _,[],_,_,_,h,_,_=>h.elim
 | _ :: _,_ :: _,[],_,_,h,_,_=>h.elim
theorem law_calls {H:Type} {enc:TypeId × Value → H} {f:Func} {s:ChangeSpec} {fid:FuncId} {W:World} {args:Array Value} {ds gs:List (DataW H)} {before:List MemPlace}
  (hts:(f.params.toList.all fun t=>Tryz.prog.readableRec t && decide (t<Tryz.prog.types.size))=true) (hrt:f.resultTypes = #[4]) (hsv:s.vars=[])
  (hW:DataW.Whole enc Tryz.prog f.params.toList s.vars false W args.toList ds gs before)
  (hfn:∀ gs',gs'=[] → s.fn H (ds ++ gs')={ results:=[.lit (.bool true)],args:=ds })
  (hc:Calls Tryz.prog fid args W fun e W'=>e=.returned (.bool true) ∧ Below W.heap.size W W') :
  Calls Tryz.prog fid args W fun e W'=>∃ v,e=.returned v ∧ s.post enc Tryz.prog f false true false false W args v W':=by
 refine hc.mono fun e W' ⟨he,hb⟩=>⟨_,he,?_⟩
 have hW':=hW
 obtain ⟨p,q,hA,hV,rfl,hfz,hnd⟩:=hW
 rw [hsv] at hV
 obtain ⟨rfl,rfl⟩:=trodVars_none hV
 have hlt:∀ x ∈ p,x.block<W.heap.size:=fun x hx=>hW'.lt x (List.mem_append.2 (.inl hx))
 have e1:=hfn [] rfl
 refine ⟨ds,[],p ++ [],[],p,[],hW',?_,?_,?_,hb.frame _,fun h=>by cases h⟩
 ·rw [e1,hrt]
  exact trodAll_mk1 (shut_bool lawBool true)
 ·rw [e1]
  exact trodAll_below lawLaid hb _ hts hA hlt (fun x hx=>by simpa using hlt x hx)
 ·rw [e1,hsv]
  rfl
end
section
open Go.RowKit
def RI (w:World) (v:Value) (l:List Int):Prop:=(sliceR (intR .i64)).one w (fun b=>b<w.heap.size) v l
theorem RI.below {w w':World} {v:Value} {l:List Int} (h:RI w v l) (hb:Below w.heap.size w w'):RI w' v l:=slice_mono (slice_below h hb fun b h=>h) fun b h=>Nat.lt_of_lt_of_le h hb.size
theorem RI.form {w:World} {v:Value} {l:List Int} (h:RI w v l):∃ A c,v=.slice A l.length c ∧ l.length≤c:=by
 obtain ⟨A,c,h1,h2,_⟩:=slice_form h
 exact ⟨A,c,h1,h2⟩
theorem RI.at_ {w:World} {A:Option Addr} {n c:Nat} {l:List Int} (h:RI w (.slice A n c) l) {k:Nat} (hk:k<l.length) :
  ∃ b o,A=some ⟨b,o,none⟩ ∧ w.cell? ⟨b,o+k,none⟩=some (.int .i64 (l.getD k 0)) ∧ -9223372036854775808≤l.getD k 0 ∧ l.getD k 0≤9223372036854775807:=by
 obtain ⟨b,o,rfl,hb,_⟩:=slice_some h (by omega)
 have:=ints_at h hk
 rw [List.getD,List.getElem?_eq_getElem hk]
 exact ⟨b,o,rfl,this⟩
theorem RI.own {w:World} {base:Nat} {v:Value} {n:Nat} {l:List Int} (h:w.ownsRow base 3 1 v n (l.map (Value.int .i64))) (hx:∀ x ∈ l,-9223372036854775808≤x ∧ x≤9223372036854775807):RI w v l:=
 slice_mono (slice_own1 (r:=intR .i64) _ h rfl fun a ha=>⟨rfl,wf_i64_mk (hx a ha).1 (hx a ha).2⟩) fun b h=>h.2
theorem intInfo:(Tryz.prog.info? 3).map (fun i=>(i.zero,i.size,i.bytes))=some (some (.int .i64 0),1,8):=by kernel_rfl
theorem one_new (w:World) (n:Int) (t:TypeId):∀ j u,[Value.int .i64 n][j]? = some u → (w.alloc (.cells #[.int .i64 n] t)).cell? ((⟨w.heap.size,0,none⟩:Addr).add j)=some u:=cells_new w [.int .i64 n] t
theorem one_one (n:Int):∀ u ∈ [Value.int .i64 n],u.oneCell'=true:=by intro u hu;simp at hu;subst hu;rfl
theorem index_any (l:List Int) (v:Value) (x:Int) (w:World) (hl:l.length≤4294967296) (hv:RI w v l) :
  Calls Tryz.prog 134 #[v,.int .i64 x] w fun e w'=>e=.returned (.int .i64 (((l.findIdx? (· == x)).map fun (n:Nat)=>(n:Int)).getD (-1))) ∧ w=w':=by
 obtain ⟨A,c,rfl,hc⟩:=hv.form
 go_enter Tryz.func134,Tryz.ntmps134
 go_wp2_with fail
 go_loop [8] (fun i=>∃ k:Nat,k≤l.length ∧ i=.int .i64 (k:Int) ∧ ∀ y ∈ l.take k,¬ y=x) (fun i=>l.length - (intOf i).toNat)
 case atStart=>exact ⟨0,Nat.zero_le _,rfl,fun y hy=>by simp at hy⟩
 case round=>
  obtain ⟨k,hk,rfl,hno⟩:=hrel
  have Hno:=hide hno
  clear hno
  by_cases hlt:k<l.length
  ·obtain ⟨b,o,rfl,hcell,hb1,hb2⟩:=hv.at_ hlt
   have htk:=hide (List.take_succ_eq_append_getElem hlt)
   have hgk:l.getD k 0=l[k]:=by rw [List.getD,List.getElem?_eq_getElem hlt];rfl
   rw [hgk] at hcell
   have hfi:(∀ y ∈ l.take k,¬ y=x) → l[k]=x → l.findIdx? (· == x)=some k:=by
    intro h1 h2
    rw [List.findIdx?_eq_some_iff_getElem]
    refine ⟨hlt,by simpa using h2,fun j hj=>?_⟩
    have:=h1 l[j] (List.mem_take_iff_getElem.2 ⟨j,by omega,rfl⟩)
    simpa using this
   have Hfi:=hide hfi
   clear hgk hfi
   generalize l[k]=y at *
   by_cases hy:y=x
   ·have h1:(x == y)=true:=by simp [hy]
    have HE:=hide (Hfi.out Hno.out hy)
    clear hy
    go_wp2_with fail
    go_ret
    rw [HE.out]
    exact ⟨rfl,rfl⟩
   ·have h1:(x == y)=false:=by simp;exact fun e=>hy e.symm
    go_wp2_with fail
    go_round
    case rel=>
     refine ⟨k+1,by omega,by go_num,fun z hz=>?_⟩
     rw [htk.out] at hz
     rcases List.mem_append.1 hz with hz|hz
     ·exact Hno.out z hz
     ·simp at hz;subst hz;exact hy
    case measure=>simp [intOf];omega
  ·obtain rfl:k=l.length:=by omega
   go_wp2_with fail
   go_ret
   have:l.findIdx? (· == x)=none:=by
    rw [List.findIdx?_eq_none_iff]
    intro y hy
    have:=Hno.out y (by rwa [List.take_length])
    simpa using this
   rw [this]
   exact ⟨rfl,rfl⟩
theorem contains_any (l:List Int) (v:Value) (x:Int) (w:World) (hl:l.length≤4294967296) (hv:RI w v l) :
  Calls Tryz.prog 100 #[v,.int .i64 x] w fun e w'=>e=.returned (.bool (decide (x ∈ l))) ∧ w=w':=by
 have hcase:(∃ n:Nat,l.findIdx? (· == x)=some n ∧ x ∈ l) ∨ (l.findIdx? (· == x)=none ∧ x ∉ l):=by
  cases h:l.findIdx? (· == x) with
  | none=>
   right
   rw [List.findIdx?_eq_none_iff] at h
   exact ⟨rfl,fun hx=>by have:=h x hx;simp at this⟩
  | some n=>
   left
   rw [List.findIdx?_eq_some_iff_getElem] at h
   obtain ⟨h1,h2,_⟩:=h
   simp at h2
   exact ⟨n,rfl,by rw [← h2];exact List.getElem_mem _⟩
 have hix:=index_any l v x w hl hv
 rcases hcase with ⟨n,h1,h2⟩|⟨h1,h2⟩
 ·rw [h1] at hix
  have Hix:=hide hix
  clear hix h1
  go_enter Tryz.func100,Tryz.ntmps100
  go_wp2_with (go_at_call 134;refine Hix.out.mono ?_;rintro e w' ⟨rfl,rfl⟩;simp only [Option.map_some,Option.getD_some])
  go_ret
  exact ⟨by simp [h2],rfl⟩
 ·rw [h1] at hix
  have Hix:=hide hix
  clear hix h1
  go_enter Tryz.func100,Tryz.ntmps100
  go_wp2_with (go_at_call 134;refine Hix.out.mono ?_;rintro e w' ⟨rfl,rfl⟩;simp only [Option.map_none,Option.getD_none])
  go_ret
  exact ⟨by simp [h2],rfl⟩
def InPost (l:List Int) (i:Int) (w:World) (e:Ending) (w':World):Prop:=(par l i = -1 ∧ e=.returned (.tuple #[.int .i64 0,.bool false]) ∨ isAt l (par l i) ∧ e=.returned (.tuple #[.int .i64 (par l i),.bool true])) ∧ w=w'
theorem in_any (l:List Int) (v:Value) (i:Int) (w:World) (hl:l.length≤4294967296) (hv:RI w v l) :
  Calls Tryz.prog 72 #[v,.int .i64 i] w (InPost l i w):=by
 obtain ⟨A,c,rfl,hc⟩:=hv.form
 by_cases h1:isAt l i
 ·obtain ⟨h1a,h1b⟩:=h1
  obtain ⟨k,rfl⟩:=Int.eq_ofNat_of_zero_le h1a
  have hk:k<l.length:=by omega
  obtain ⟨b,o,rfl,hcell,hb1,hb2⟩:=hv.at_ hk
  have hp:par l (k:Int)=norm l (l.getD k 0):=by unfold par;rw [if_pos ⟨h1a,h1b⟩];simp
  have hn:=norm_cases l (l.getD k 0)
  rw [← hp] at hn
  have Hn:=hide hn
  clear hn hp
  generalize l.getD k 0=y at *
  by_cases h2:0≤y
  ·by_cases h3:y<(l.length:Int)
   ·have e:par l k=y:=by
     rcases Hn.out with ⟨_,e⟩|⟨h,_⟩
     ·exact e
     ·exact absurd ⟨h2,h3⟩ h
    have E:=hide e
    clear e
    go_enter Tryz.func72,Tryz.ntmps72
    go_wp2_with fail
    go_ret2
    refine ⟨.inr ⟨?_,?_⟩,rfl⟩
    ·rw [E.out];exact ⟨h2,h3⟩
    ·rw [E.out];rfl
   ·have e:par l k = -1:=by
     rcases Hn.out with ⟨h,_⟩|⟨_,e⟩
     ·exact absurd h.2 h3
     ·exact e
    have E:=hide e
    clear e
    go_enter Tryz.func72,Tryz.ntmps72
    go_wp2_with fail
    go_ret2
    exact ⟨.inl ⟨E.out,rfl⟩,rfl⟩
  ·have e:par l k = -1:=by
    rcases Hn.out with ⟨h,_⟩|⟨_,e⟩
    ·exact absurd h.1 h2
    ·exact e
   have E:=hide e
   clear e
   go_enter Tryz.func72,Tryz.ntmps72
   go_wp2_with fail
   go_ret2
   exact ⟨.inl ⟨E.out,rfl⟩,rfl⟩
 ·have e:par l i = -1:=by unfold par;rw [if_neg h1]
  have E:=hide e
  clear e
  by_cases h2:0≤i
  ·have h3:(l.length:Int)≤i:=by
    unfold isAt at h1;omega
   go_enter Tryz.func72,Tryz.ntmps72
   go_wp2_with fail
   go_ret2
   exact ⟨.inl ⟨E.out,rfl⟩,rfl⟩
  ·go_enter Tryz.func72,Tryz.ntmps72
   go_wp2_with fail
   go_ret2
   exact ⟨.inl ⟨E.out,rfl⟩,rfl⟩
def ListPost (L:List Int) (w:World) (e:Ending) (w':World):Prop:=∃ v,e=.returned v ∧ w'.ownsRow w.heap.size 3 1 v L.length (L.map (Value.int .i64)) ∧ Below w.heap.size w w'
theorem in_no (l:List Int) (v:Value) (i:Int) (w:World) (hl:l.length≤4294967296) (hv:RI w v l) (h:par l i = -1) :
  Calls Tryz.prog 72 #[v,.int .i64 i] w fun e w'=>e=.returned (.tuple #[.int .i64 0,.bool false]) ∧ w=w':=
 (in_any l v i w hl hv).mono fun e w' ⟨hh,hw⟩=>by
  rcases hh with ⟨_,he⟩|⟨hat,_⟩
  ·exact ⟨he,hw⟩
  ·rw [h] at hat;exact absurd hat.1 (by omega)
theorem in_yes (l:List Int) (v:Value) (i y:Int) (w:World) (hl:l.length≤4294967296) (hv:RI w v l) (h:par l i=y) (hy:isAt l y) :
  Calls Tryz.prog 72 #[v,.int .i64 i] w fun e w'=>e=.returned (.tuple #[.int .i64 y,.bool true]) ∧ w=w':=
 (in_any l v i w hl hv).mono fun e w' ⟨hh,hw⟩=>by
  rcases hh with ⟨hp,_⟩|⟨hat,he⟩
  ·rw [h] at hp;exact absurd hy.1 (by omega)
  ·rw [h] at he;exact ⟨he,hw⟩
def lenOf:Value → Nat | .slice _ n _=>n | _=>0
theorem wp_scope_label {P:Program} {a:Act} {w:World} {Q:Exit → Act → World → Prop} {c X:Code} (l:Nat) (J:Act → World → Prop) (μ:Act → World → Nat) (hf:findLabel c l=some (Code.skip.seq X))
  (pass:∀ a w,J a w → X.wp P (Exit.jump l (fun a' w'=>J a' w' ∧ μ a' w' < μ a w) Q) a w)
  (first:(∀ a w,J a w → X.wp P (Exit.jump l J Q) a w) → c.wp P (Exit.jump l J Q) a w):(Code.scope c).wp P Q a w:=by
 refine wp_scope_jumps l J μ hf (first fun a w h=>wp_mono (pass a w h) ?_) (fun a w h=>?_)
 ·intro e a' w' hq
  cases e with
  | goto l'=>exact ⟨hq.1,hq.2.1⟩
  | normal=>exact hq
  | exit id=>exact hq
  | ret=>exact hq
  | panic ch=>exact hq
  | outgrown=>exact hq
 ·exact wp_seq (wp_skip (pass a w h))
theorem above_any (l:List Int) (v:Value) (i:Int) (w:World) (hl:l.length≤1073741824) (hv:RI w v l) :
  Calls Tryz.prog 71 #[v,.int .i64 i] w (ListPost (aboveL l i) w):=by
 obtain ⟨i0,hi0,hz0,hz1,hz2⟩:=info_parts intInfo
 have hl:l.length≤4294967296:=by omega
 obtain ⟨A,c,rfl,hc⟩:=hv.form
 go_enter Tryz.func71,Tryz.ntmps71
 go_wp2_with fail
 refine wp_scope_label 0 (fun a' w'=>∃ (m:Nat) (q:Int) (out:List Int) (v':Value) (u7 u8 u9 u10 u11 u12 u13 u14 u15 u16 u17 u18 u19 u20 u21 u22 u23 u24 u25 u26 u27 u28 u29 u30 u31 u32 u33:Value),
   a'={ tmps:=#[.slice A l.length c,.int .i64 i,undef,undef,.slice none 0 0,v',.int .i64 q,u7,u8,u9,u10,u11,u12,u13,u14,u15,u16,u17,u18,u19,u20,u21,u22,u23,u24,u25,u26,u27,u28,u29,u30,u31,u32,u33],defers:=[] } ∧
   UpAt l i m q out ∧ w'.ownsRow w.heap.size 3 1 v' out.length (out.map (Value.int .i64)) ∧ Below w.heap.size w w') (fun a' w'=>l.length+1 - lenOf (a'.tmps.getD 5 undef)) (by rfl) ?_ ?_
 ·rintro a' w1 ⟨m,q,out,v',u7,u8,u9,u10,u11,u12,u13,u14,u15,u16,u17,u18,u19,u20,u21,u22,u23,u24,u25,u26,u27,u28,u29,u30,u31,u32,u33,rfl,hup,hown,hb⟩
  have hat:=hup.at_
  have hroom:=hup.room
  have hlen:=hup.len
  have hri:RI w1 v' out:=RI.own hown (fun x hx=>by have:=hat x hx;unfold isAt at this;omega)
  have hl1:out.length≤4294967296:=by omega
  have hv1:=hv.below hb
  obtain ⟨A',c',rfl,hc'⟩:=hri.form
  have Hstop:=hide (hup.stop)
  have Hnext:=hide (hup.next)
  have Hlen:=hide hlen
  have Hat:=hide hat
  clear hat hlen
  rcases par_at l q with hp|hp
  ·have hin:=in_no l _ q w1 hl hv1 hp
   have Hin:=hide hin
   have E:=hide (Hstop.out (.inl hp))
   clear hin hp
   go_wp2_with (go_at_call 72;refine Hin.out.mono ?_;rintro e w2 ⟨rfl,rfl⟩)
   simp only [Exit.jump]
   go_ret
   rw [← E.out]
   exact ⟨_,rfl,hown,hb⟩
  ·have hin:=in_yes l _ q (par l q) w1 hl hv1 rfl hp
   have hpr:0≤par l q ∧ par l q<(l.length:Int):=hp
   have Hin:=hide hin
   have hs1:par l q=i → out=aboveL l i:=fun h=>Hstop.out (.inr (.inl h))
   have hs2:par l q ∈ out → out=aboveL l i:=fun h=>Hstop.out (.inr (.inr h))
   have hs3:par l q ≠ i → par l q ∉ out → UpAt l i (m+1) (par l q) (out ++ [par l q]) ∧ m+1≤l.length:=fun h1 h2=>Hnext.out (fun hh=>by
    rcases hh with hh|hh|hh
    ·have:=hp.1;omega
    ·exact h1 hh
    ·exact h2 hh)
   have Hs1:=hide hs1
   have Hs2:=hide hs2
   have Hs3:=hide hs3
   clear hin hp hs1 hs2 hs3 Hstop Hnext
   generalize par l q=y at *
   cases h1:(y == i) with
   | true=>
    have E:=hide (Hs1.out (by simpa using h1))
    go_wp2_with (go_at_call 72;refine Hin.out.mono ?_;rintro e w2 ⟨rfl,rfl⟩)
    simp only [Exit.jump]
    go_ret
    rw [← E.out]
    exact ⟨_,rfl,hown,hb⟩
   | false=>
    have hne:y ≠ i:=by simpa using h1
    have hcn:=contains_any out _ y w1 hl1 hri
    by_cases h2:y ∈ out
    ·rw [show decide (y ∈ out)=true from decide_eq_true h2] at hcn
     have Hcn:=hide hcn
     have E:=hide (Hs2.out h2)
     clear hcn h2 hne
     go_wp2_with (first
      | (go_at_call 72;refine Hin.out.mono ?_;rintro e w2 ⟨rfl,rfl⟩)
      | (go_at_call 100;refine Hcn.out.mono ?_;rintro e w2 ⟨rfl,rfl⟩))
     simp only [Exit.jump]
     go_ret
     rw [← E.out]
     exact ⟨_,rfl,hown,hb⟩
    ·rw [show decide (y ∈ out)=false from decide_eq_false h2] at hcn
     have Hcn:=hide hcn
     have E:=hide (Hs3.out hne h2)
     clear hcn h2 hne
     have hB:=hb.size
     go_wp2_with (first
      | (go_at_call 72;refine Hin.out.mono ?_;rintro e w2 ⟨rfl,rfl⟩)
      | (go_at_call 100;refine Hcn.out.mono ?_;rintro e w2 ⟨rfl,rfl⟩)
      | (at_builtin;refine wpList_append_own _ rfl (.tmp 29) (.tmp 31) 51 rfl w.heap.size 3 i0 _ 1 8 Tryz.underlying51 hi0 hz0 hz1 hz2 rfl (by omega) _ out.length _ rfl (hown.alloc _) ⟨w1.heap.size,0,none⟩ 1 1 [.int .i64 y] rfl rfl (one_new _ _ _) (one_one _) (by unfold maxLen;omega) (by omega) (by simp;omega) ?_;intro v2 w2 hown2 hg2 _))
     go_step3
     obtain ⟨e1,e2⟩:=E.out
     have hb2:=(hb.alloc hb.size (.cells #[.int .i64 y] 3)).grown hg2 (by simp;omega) (fun g hg=>(hown.lt g hg).1)
     refine ⟨rfl,⟨m+1,y,out ++ [y],v2,_,_,_,_,_,_,_,_,_,_,_,_,_,_,_,_,_,_,_,_,_,_,_,_,_,_,_,rfl,e1,?_,hb2⟩,?_⟩
     ·have:=hown2
      rw [List.length_append,List.map_append]
      exact this
     ·obtain ⟨A2,c2,rfl,_⟩:=own_form hown2
      show l.length+1 - (out.length+1)<l.length+1 - out.length
      have:=Hlen.out
      omega
 ·intro hpass
  go_wp2
  go_step3
  rename_i hK
  exact hK _ _ (hpass _ _ ⟨0,i,[],_,_,_,_,_,_,_,_,_,_,_,_,_,_,_,_,_,_,_,_,_,_,_,_,_,_,_,_,rfl,UpAt.start l i,World.ownsRow_nil _ _ _ _,Below.refl _ _⟩)
end
section
open Go.RowKit
theorem rt_ints {w:World} {S:Nat → Prop} {v:Value} {l:List Int} (h:RT w S v (sI l)) (hS:SOk w S) (hl:∀ x ∈ l,ok64 x):RI w v l:=by
 obtain ⟨A,cap,rfl,hc,hm,_,hA⟩:=h.sl_inv
 refine ⟨A,cap,by simp,by simpa using hc,hm,fun h0=>?_⟩
 obtain ⟨b,o,rfl,hb,U,hcell,hr,_⟩:=hA (by simpa using h0)
 refine ⟨b,o,rfl,hS b hb,fun i hi=>⟨[.int .i64 l[i]],fun j u hu=>?_,rfl,?_⟩⟩
 ·have h1:(l.map fun n=>[eI n])[i]? = some [eI l[i]]:=by simp [hi]
  have h2:=hcell i 0 _ _ h1 rfl
  have h3:=rtc (hr i 0 _ _ h1 rfl)
  cases j with
  | zero=>
   simp at hu
   subst hu
   rw [h3] at h2
   simpa [intR] using h2
  | succ j=>simp at hu
 ·have:=hl _ (List.getElem_mem hi)
  exact wf_i64_mk this.1 this.2
theorem adet_of_list {f:FuncId} {args:List AV} {l:List Int} (he:Enters Tryz.prog f)
  (h:∀ (S:Nat → Prop) (w:World) (vs:Array Value),SOk w S → vs.size=args.length → (∀ (j:Nat) (v:Value) (av:AV),vs[j]? = some v → args[j]? = some av → RT w S v av) → Calls Tryz.prog f vs w (ListPost l w)):ADet Tryz.prog f args (own 3 1 (l.map fun n=>[eI n])):=
 ⟨he,fun S w vs h1 h2 h3=>(h S w vs h1 h2 h3).mono fun e w' ⟨v,h4,h5,h6⟩=>by
  have hget:∀ id o,(own 3 1 (l.map fun n=>[eI n])).tab.get id=some o → id=0 ∧ o=.row 3 1 (l.map fun n=>[eI n]):=fun id o ho=>by
   simp only [own,ATab.get_cons] at ho
   split at ho
   ·cases ho
    exact ⟨by assumption,rfl⟩
   ·cases ho
  refine ⟨v,fun _=>v,_,rfl,own_ok ..,h4,⟨belowX h6,fun id o ho=>?_,fun id id' o o' g h7 h8 _ _=>?_,fun b hb=>hb.elim⟩,.osl _ _ fun sz u hk=>?_⟩
  ·obtain ⟨_,rfl⟩:=hget id o ho
   refine ⟨fun row hr=>?_,_,by rw [List.length_map];exact ownsR_of h5,fun x hx=>?_,fun i j row av ha hb=>?_⟩
   ·obtain ⟨n,_,rfl⟩:=List.mem_map.1 hr
    rfl
   ·obtain ⟨n,_,rfl⟩:=List.mem_map.1 hx
    rfl
   ·rw [List.getElem?_map] at ha
    cases hi:l[i]? with
    | none=>simp [hi] at ha
    | some n=>
     simp [hi] at ha
     subst ha
     cases j with
     | zero=>
      simp at hb
      subst hb
      exact ⟨.int .i64 n,by simp [hi],.c _⟩
     | succ j=>simp at hb
  ·rw [(hget id o h7).1,(hget id' o' h8).1]
  ·unfold Kx at hk
   cases ho:(own 3 1 (l.map fun n=>[eI n])).tab.get 0 with
   | none=>simp [ho] at hk
   | some o=>simp [ho] at hk;exact hk.2⟩
theorem two_args {vs:Array Value} (h:vs.size=2):∃ a b,vs = #[a,b]:=⟨vs[0],vs[1],by apply Array.ext (by simpa using h);intro i h1 h2;simp at h2;match i with | 0=>rfl | 1=>rfl⟩
theorem gives_tree {r av:AV} {st:ASt} (h:r.ren []=av):aGives ⟨r,[],0⟩ st av:=⟨[],List.nodup_nil,h,trivial⟩
theorem pairs_plain {l:List (Bool × Int)}:∀ row ∈ l.map eBI,∀ av ∈ row,av.plain:=fun row hr av ha=>by
 obtain ⟨n,_,rfl⟩:=List.mem_map.1 hr
 simp at ha
 rcases ha with rfl|rfl <;> trivial
theorem sentryTy : (Tryz.prog.fieldsOf 93).toList.map (fun f => (f.name, f.type, f.offset)) = [("Mile", 4, 0), ("N", 3, 1)] := by kernel_rfl
theorem sentryBin (op:BinOp) (hop:op=.eql ∨ op=.neq) (a b:Bool × Int):BinRun Tryz.prog op 93 (.agg #[.bool a.1,.int .i64 a.2]) (.agg #[.bool b.1,.int .i64 b.2]) (.bool (if op matches .eql then (a.1 == b.1 && a.2 == b.2) else !(a.1 == b.1 && a.2 == b.2))):=by
 have ht:=sentryTy
 obtain ⟨f,g,hfs⟩:∃ f g,(Tryz.prog.fieldsOf 93).toList=[f,g]:=by
  generalize (Tryz.prog.fieldsOf 93).toList=l at ht ⊢
  cases l with
  | nil=>simp at ht
  | cons f l=>cases l with
   | nil=>simp at ht
   | cons g l=>cases l with
    | nil=>exact ⟨f,g,rfl⟩
    | cons h l=>simp at ht
 rw [hfs] at ht
 simp only [List.map_cons,List.map_nil,List.cons.injEq,Prod.mk.injEq,and_true] at ht
 obtain ⟨⟨h1,h2,h3⟩,h4,h5,h6⟩:=ht
 refine structRun [(.bool a.1,.bool b.1),(.int .i64 a.2,.int .i64 b.2)] (by kernel_rfl) (by kernel_rfl) (by kernel_rfl) (by rw [hfs];rfl) (fun k f' p hk hp=>?_) (by simp [cellsEq,cellEq]) hop
 rw [hfs] at hk
 match k,hk,hp with
 | 0,hk,hp=>
  cases hk
  cases hp
  refine ⟨by rw [h1];decide,?_,by rw [h3];rfl,by rw [h3];rfl⟩
  rw [h2]
  kernel_rfl
 | 1,hk,hp=>
  cases hk
  cases hp
  refine ⟨by rw [h4];decide,?_,by rw [h6];rfl,by rw [h6];rfl⟩
  rw [h5]
  kernel_rfl
 | k+2,hk,hp=>simp at hk
end
section
open Go.RowKit
theorem up_rest (l:List Int) (i:Int) (k d:Nat) (x:Int) (h:upN l i k=norm l x) (hx:¬ isAt l x):upN l i (k+d) = -1:=
 upN_none l i k (by rw [h];exact ((norm_cases l x).resolve_left fun hh=>hx hh.1).2) d
theorem up_any (l:List Int) (v:Value) (i n:Int) (w:World) (hl:l.length≤1073741824) (hn0:0≤n) (hn:n≤4294967296) (hv:RI w v l) :
  Calls Tryz.prog 64 #[v,.int .i64 i,.int .i64 n] w fun e w'=>e=.returned (.int .i64 (upN l i n.toNat)) ∧ w=w':=by
 obtain ⟨A,c,rfl,hc⟩:=hv.form
 obtain ⟨N,rfl⟩:=Int.eq_ofNat_of_zero_le hn0
 rw [Int.toNat_natCast]
 go_enter Tryz.func64,Tryz.ntmps64
 go_wp2_with fail
 go_loop [1,7] (fun x j=>∃ (k:Nat) (y:Int),k≤N ∧ j=.int .i64 (k:Int) ∧ x=.int .i64 y ∧ upN l i k=norm l y) (fun x j=>N - (intOf j).toNat)
 case atStart=>exact ⟨0,i,Nat.zero_le _,rfl,rfl,rfl⟩
 case round=>
  obtain ⟨k,y,hk,rfl,rfl,hup⟩:=hrel
  by_cases hlt:k<N
  ·by_cases hy:isAt l y
   ·obtain ⟨hy1,hy2⟩:=hy
    obtain ⟨z,rfl⟩:=Int.eq_ofNat_of_zero_le hy1
    obtain ⟨b,o,rfl,hcell,hb1,hb2⟩:=hv.at_ (show z<l.length by omega)
    have e:upN l i (k+1)=norm l (l.getD z 0):=by
     show par l (upN l i k)=_
     rw [hup,par_norm]
     unfold par
     rw [if_pos ⟨hy1,hy2⟩];simp
    have E:=hide e
    clear hup e
    generalize l.getD z 0=y' at *
    go_wp2_with fail
    go_round
    case rel=>exact ⟨k+1,y',by omega,by go_num,rfl,E.out⟩
    case measure=>simp [intOf];omega
   ·have e:=up_rest l i k (N - k) y hup hy
    rw [show k+(N - k)=N from by omega] at e
    have E:=hide e
    clear e hup
    by_cases h0:0≤y
    ·have h1:(l.length:Int)≤y:=by unfold isAt at hy;omega
     clear hy
     go_wp2_with fail
     go_ret
     rw [E.out];exact ⟨rfl,rfl⟩
    ·clear hy
     go_wp2_with fail
     go_ret
     rw [E.out];exact ⟨rfl,rfl⟩
  ·obtain rfl:k=N:=by omega
   by_cases hy:isAt l y
   ·have e:upN l i k=y:=by rw [hup];exact ((norm_cases l y).resolve_right fun hh=>hh.1 hy).2
    have E:=hide e
    clear e hup
    obtain ⟨hy1,hy2⟩:=hy
    go_wp2_with fail
    go_ret
    rw [E.out];exact ⟨rfl,rfl⟩
   ·have e:upN l i k = -1:=by rw [hup];exact ((norm_cases l y).resolve_left fun hh=>hy hh.1).2
    have E:=hide e
    clear e hup
    by_cases h0:0≤y
    ·have h1:(l.length:Int)≤y:=by unfold isAt at hy;omega
     clear hy
     go_wp2_with fail
     go_ret
     rw [E.out];exact ⟨rfl,rfl⟩
    ·clear hy
     go_wp2_with fail
     go_ret
     rw [E.out];exact ⟨rfl,rfl⟩
noncomputable instance (l:List Int) (a i:Int):Decidable (isL l a i):=Classical.propDecidable _
theorem is_any (l:List Int) (v:Value) (a i:Int) (w:World) (hl:l.length≤1073741824) (hv:RI w v l) :
  Calls Tryz.prog 32 #[v,.int .i64 a,.int .i64 i] w fun e w'=>e=.returned (.bool (decide (isL l a i))) ∧ w=w':=by
 obtain ⟨A,c,rfl,hc⟩:=hv.form
 go_enter Tryz.func32,Tryz.ntmps32
 go_wp2_with fail
 go_loop [7] (fun j=>∃ k:Nat,1≤k ∧ k≤l.length+1 ∧ j=.int .i64 (k:Int) ∧ ∀ m,1≤m → m<k → ¬ (0≤a ∧ upN l i m=a)) (fun j=>l.length+1 - (intOf j).toNat)
 case atStart=>exact ⟨1,Nat.le_refl _,by omega,rfl,fun m h1 h2=>by omega⟩
 case round=>
  obtain ⟨k,hk1,hk,rfl,hno⟩:=hrel
  have Hno:=hide hno
  clear hno
  by_cases hlt:k≤l.length
  ·have hup:=up_any l _ i (k:Int) w hl (by omega) (by omega) hv
   rw [Int.toNat_natCast] at hup
   have hyes:0≤a → upN l i k=a → decide (isL l a i)=true:=fun h1 h2=>decide_eq_true ⟨k,hk1,hlt,h1,h2⟩
   have hnext:¬ (0≤a ∧ upN l i k=a) → ∀ m,1≤m → m<k+1 → ¬ (0≤a ∧ upN l i m=a):=fun h m h1 h2=>by
    by_cases e:m=k
    ·subst e;exact h
    ·exact Hno.out m h1 (by omega)
   have Hup:=hide hup
   have Hyes:=hide hyes
   have Hnext:=hide hnext
   clear hup hyes hnext Hno
   generalize upN l i k=y at *
   by_cases h0:0≤a
   ·by_cases h1:y=a
    ·have h2:(y == a)=true:=by simpa using h1
     have E:=hide (Hyes.out h0 h1)
     clear h1
     go_wp2_with (go_at_call 64;refine Hup.out.mono ?_;rintro e w' ⟨rfl,rfl⟩)
     go_ret
     rw [E.out];exact ⟨rfl,rfl⟩
    ·have h2:(y == a)=false:=by simpa using h1
     have E:=hide (Hnext.out (fun hh=>h1 hh.2))
     clear h1
     go_wp2_with (go_at_call 64;refine Hup.out.mono ?_;rintro e w' ⟨rfl,rfl⟩)
     go_round
     case rel=>exact ⟨k+1,by omega,by omega,by go_num,E.out⟩
     case measure=>simp [intOf];omega
   ·have E:=hide (Hnext.out (fun hh=>h0 hh.1))
    go_wp2_with fail
    go_round
    case rel=>exact ⟨k+1,by omega,by omega,by go_num,E.out⟩
    case measure=>simp [intOf];omega
  ·have e:decide (isL l a i)=false:=by
    refine decide_eq_false fun ⟨m,h1,h2,h3,h4⟩=>Hno.out m h1 (by omega) ⟨h3,h4⟩
   have E:=hide e
   clear e
   go_wp2_with fail
   go_ret
   rw [E.out];exact ⟨rfl,rfl⟩
end
section
open Go.RowKit
def fl (p:Nat → Bool) (k:Nat):List Int:=((List.range k).filter p).map fun (n:Nat)=>(n:Int)
theorem fl_yes (p:Nat → Bool) (k:Nat) (h:p k=true):fl p (k+1)=fl p k ++ [(k:Int)]:=by simp [fl,List.range_succ,h]
theorem fl_no (p:Nat → Bool) (k:Nat) (h:p k=false):fl p (k+1)=fl p k:=by simp [fl,List.range_succ,h]
theorem fl_len (p:Nat → Bool) (k:Nat):(fl p k).length≤k:=by
 have:=List.length_filter_le p (List.range k)
 simpa [fl] using this
theorem above_at (l:List Int) (i:Int):∀ x ∈ aboveL l i,isAt l x:=by
 obtain ⟨m,p,h,_⟩:=up_end l i
 exact h.at_
theorem above_len (l:List Int) (i:Int):(aboveL l i).length≤l.length:=by
 obtain ⟨m,p,h,_⟩:=up_end l i
 rw [h.len];exact h.room
theorem RI.list {w:World} {base:Nat} {v:Value} {n:Nat} {l L:List Int} (h:w.ownsRow base 3 1 v n (L.map (Value.int .i64))) (hx:∀ x ∈ L,isAt l x) (hl:l.length≤1073741824):RI w v L:=
 RI.own h fun x hh=>by have:=hx x hh;unfold isAt at this;omega
end
section
open Go.RowKit
theorem fl_rel {p:Nat → Bool} {k:Nat} {w wr:World} {v v2:Value} {w1 w2:World} (h:p k=true) (hb:Below w.heap.size w wr) (hb1:Below wr.heap.size wr w1)
  (hown:w1.ownsRow w.heap.size 3 1 v (fl p k).length ((fl p k).map (Value.int .i64)))
  (hown2:w2.ownsRow w.heap.size 3 1 v2 ((fl p k).length+1) ((fl p k).map (Value.int .i64) ++ [Value.int .i64 (k:Int)])) (hg2:(w1.alloc (.cells #[.int .i64 (k:Int)] 3)).grownBy w2 v.ownBlock) :
  w2.ownsRow w.heap.size 3 1 v2 (fl p (k+1)).length ((fl p (k+1)).map (Value.int .i64)) ∧ Below w.heap.size w w2:=by
 have hb0:=hb.trans (hb1.mono hb.size)
 refine ⟨?_,(hb0.alloc hb0.size _).grown hg2 (by have:=hb0.size;simp;omega) (fun g hg=>(hown.lt g hg).1)⟩
 rw [fl_yes p k h,List.length_append,List.map_append]
 exact hown2
theorem below_any (l:List Int) (v:Value) (i:Int) (w:World) (hl:l.length≤1073741824) (hv:RI w v l) :
  Calls Tryz.prog 111 #[v,.int .i64 i] w (ListPost (belowL l i) w):=by
 obtain ⟨i0,hi0,hz0,hz1,hz2⟩:=info_parts intInfo
 obtain ⟨A,c,rfl,hc⟩:=hv.form
 by_cases hi:isAt l i
 ·obtain ⟨p,hp⟩:∃ p:Nat → Bool,p=fun (k:Nat)=>decide ((k:Int) ≠ i ∧ i ∈ aboveL l (k:Int)):=⟨_,rfl⟩
  have e:belowL l i=fl p l.length:=by unfold belowL;rw [if_pos hi,hp];rfl
  rw [e]
  have Hp:=hide hp
  clear hp e
  obtain ⟨hi1,hi2⟩:=hi
  go_enter Tryz.func111,Tryz.ntmps111
  go_wp2_with fail
  go_loopw [5,18] (fun u j wr=>∃ k:Nat,k≤l.length ∧ j=.int .i64 (k:Int) ∧ wr.ownsRow w.heap.size 3 1 u (fl p k).length ((fl p k).map (Value.int .i64)) ∧ Below w.heap.size w wr) (fun u j wr=>l.length - (intOf j).toNat)
  case atStart=>exact ⟨0,Nat.zero_le _,rfl,World.ownsRow_nil _ _ _ _,Below.refl _ _⟩
  case round=>
   obtain ⟨k,hk,rfl,hown,hb⟩:=hrel
   have hfl:=fl_len p k
   by_cases hlt:k<l.length
   ·have hv1:=hv.below hb
    by_cases hki:(k:Int)=i
    ·have h1:((k:Int) != i)=false:=by simp [hki]
     have hpk:p k=false:=by rw [Hp.out];simp [hki]
     have E:=hide (fl_no p k hpk)
     clear hki hpk
     go_wp2_with fail
     go_roundw
     case rel=>exact ⟨k+1,by omega,by go_num,by rw [E.out];exact hown,hb⟩
     case measure=>simp [intOf];omega
    ·have h1:((k:Int) != i)=true:=by simp [hki]
     have ha:=above_any l _ (k:Int) wr hl hv1
     have hab:=above_at l (k:Int)
     have hal:=above_len l (k:Int)
     have hpk:p k=decide (i ∈ aboveL l (k:Int)):=by rw [Hp.out];simp [hki]
     generalize aboveL l (k:Int)=L at *
     have Ha:=hide ha
     have Hab:=hide hab
     have Hpk:=hide hpk
     clear ha hab hpk hki
     by_cases hm:i ∈ L
     ·have hpk:p k=true:=by rw [Hpk.out];exact decide_eq_true hm
      have HP:=hide hpk
      have hd:=decide_eq_true hm
      clear hpk hm
      have HD:=hide hd
      clear hd
      go_wp2_with fail
      refine Ha.out.mono ?_
      rintro e w1 ⟨v1,rfl,hown1,hb1⟩
      have hri:=RI.list hown1 Hab.out hl
      have hcn:=contains_any L v1 i w1 (by omega) hri
      rw [HD.out] at hcn
      have Hcn:=hide hcn
      have hownk:=own_below' hown hb1
      have hb0:=hb.trans (hb1.mono hb.size)
      clear hcn hown
      obtain ⟨A',c',rfl,hc'⟩:=own_form hownk
      go_wp2_with (first
       | (go_at_call 100;refine Hcn.out.mono ?_;rintro e w2 ⟨rfl,rfl⟩)
       | (at_builtin;refine wpList_append_own _ rfl (.tmp 31) (.tmp 33) 51 rfl w.heap.size 3 i0 _ 1 8 Tryz.underlying51 hi0 hz0 hz1 hz2 rfl (by omega) _ (fl p k).length _ rfl (hownk.alloc _) ⟨w1.heap.size,0,none⟩ 1 1 [.int .i64 (k:Int)] rfl rfl (one_new _ _ _) (one_one _) (by unfold maxLen;omega) (by omega) (by have:=hb0.size;simp;omega) ?_;intro v2 w2 hown2 hg2 _))
      go_roundw
      case rel=>exact ⟨k+1,by omega,by go_num,fl_rel HP.out hb hb1 hownk hown2 hg2⟩
      case measure=>simp [intOf];omega
     ·have hpk:p k=false:=by rw [Hpk.out];exact decide_eq_false hm
      have E:=hide (fl_no p k hpk)
      have HD:=hide (decide_eq_false hm)
      clear hpk hm
      go_wp2_with fail
      refine Ha.out.mono ?_
      rintro e w1 ⟨v1,rfl,hown1,hb1⟩
      have hri:=RI.list hown1 Hab.out hl
      have hcn:=contains_any L v1 i w1 (by omega) hri
      rw [HD.out] at hcn
      have Hcn:=hide hcn
      have hownk:=own_below' hown hb1
      have hb0:=hb.trans (hb1.mono hb.size)
      clear hcn hown
      go_wp2_with (go_at_call 100;refine Hcn.out.mono ?_;rintro e w2 ⟨rfl,rfl⟩)
      go_roundw
      case rel=>exact ⟨k+1,by omega,by go_num,by rw [E.out];exact hownk,hb0⟩
      case measure=>simp [intOf];omega
   ·obtain rfl:k=l.length:=by omega
    go_wp2_with fail
    go_ret
    exact ⟨_,rfl,hown,hb⟩
 ·have e:belowL l i=[]:=by unfold belowL;rw [if_neg hi]
  rw [e]
  clear e
  by_cases h0:0≤i
  ·have h1:(l.length:Int)≤i:=by unfold isAt at hi;omega
   go_enter Tryz.func111,Tryz.ntmps111
   go_wp2_with fail
   go_ret
   exact ⟨_,rfl,World.ownsRow_nil _ _ _ _,Below.refl _ _⟩
  ·go_enter Tryz.func111,Tryz.ntmps111
   go_wp2_with fail
   go_ret
   exact ⟨_,rfl,World.ownsRow_nil _ _ _ _,Below.refl _ _⟩
theorem circle_yes (l:List Int) (k:Nat) (hk:k<l.length) (hno:∀ j,j<k → ¬ circ l (j:Int)) (hy:circ l (k:Int)):circleL l=(k:Int):=by
 unfold circleL
 have:(List.range l.length).find? (fun (i:Nat)=>decide (circ l (i:Int)))=some k:=by
  rw [List.find?_range_eq_some]
  exact ⟨by simpa using hy,by simpa using hk,fun j hj=>by simpa using hno j hj⟩
 rw [this];rfl
theorem circle_no (l:List Int) (hno:∀ j,j<l.length → ¬ circ l (j:Int)):circleL l = -1:=by
 unfold circleL
 have:(List.range l.length).find? (fun (i:Nat)=>decide (circ l (i:Int)))=none:=by
  rw [List.find?_eq_none]
  intro j hj
  simpa using hno j (by simpa using hj)
 rw [this];rfl
theorem refCircle_any (l:List Int) (v:Value) (w:World) (hl:l.length≤1073741824) (hv:RI w v l) :
  Calls Tryz.prog 12 #[v] w fun e w'=>e=.returned (.int .i64 (circleL l)) ∧ Below w.heap.size w w':=by
 obtain ⟨A,c,rfl,hc⟩:=hv.form
 go_enter Tryz.func12,Tryz.ntmps12
 go_wp2_with fail
 go_loop [3] (fun j=>∃ k:Nat,k≤l.length ∧ j=.int .i64 (k:Int) ∧ ∀ m,m<k → ¬ circ l (m:Int)) (fun j=>l.length - (intOf j).toNat)
 case atStart=>exact ⟨0,Nat.zero_le _,rfl,fun m hm=>by omega⟩
 case round=>
  obtain ⟨k,hk,rfl,hno⟩:=hrel
  have Hno:=hide hno
  clear hno
  by_cases hlt:k<l.length
  ·have ha:=is_any l _ (k:Int) (k:Int) w hl hv
   have hci:=circ_iff l (k:Int) ⟨by omega,by omega⟩
   have e:decide (isL l (k:Int) (k:Int))=decide (circ l (k:Int)):=by
    refine decide_eq_decide.2 ⟨fun ⟨j,h1,h2,_,h3⟩=>hci.2 ⟨j,h1,h2,h3⟩,fun h=>?_⟩
    obtain ⟨j,h1,h2,h3⟩:=hci.1 h
    exact ⟨j,h1,h2,by omega,h3⟩
   rw [e] at ha
   by_cases hy:circ l (k:Int)
   ·rw [decide_eq_true hy] at ha
    have Ha:=hide ha
    have E:=hide (circle_yes l k hlt Hno.out hy)
    clear ha e hci hy
    go_wp2_with (go_at_call 32;refine Ha.out.mono ?_;rintro e w2 ⟨rfl,rfl⟩)
    go_ret
    rw [E.out]
    exact ⟨rfl,Below.refl _ _⟩
   ·rw [decide_eq_false hy] at ha
    have Ha:=hide ha
    have Hy:=hide hy
    clear ha e hci hy
    go_wp2_with (go_at_call 32;refine Ha.out.mono ?_;rintro e w2 ⟨rfl,rfl⟩)
    go_round
    case rel=>
     refine ⟨k+1,by omega,by go_num,fun m hm=>?_⟩
     by_cases e:m=k
     ·subst e;exact Hy.out
     ·exact Hno.out m (by omega)
    case measure=>simp [intOf];omega
  ·obtain rfl:k=l.length:=by omega
   have E:=hide (circle_no l Hno.out)
   go_wp2_with fail
   go_ret
   rw [E.out]
   exact ⟨rfl,Below.refl _ _⟩
theorem circle_any (l:List Int) (v:Value) (w:World) (hl:l.length≤1073741824) (hv:RI w v l) :
  Calls Tryz.prog 41 #[v] w fun e w'=>e=.returned (.int .i64 (circleL l)) ∧ Below w.heap.size w w':=by
 obtain ⟨A,c,rfl,hc⟩:=hv.form
 go_enter Tryz.func41,Tryz.ntmps41
 go_wp2_with fail
 go_loopw [10] (fun j wr=>∃ k:Nat,k≤l.length ∧ j=.int .i64 (k:Int) ∧ (∀ m,m<k → ¬ circ l (m:Int)) ∧ Below w.heap.size w wr) (fun j wr=>l.length - (intOf j).toNat)
 case atStart=>exact ⟨0,Nat.zero_le _,rfl,fun m hm=>by omega,Below.refl _ _⟩
 case round=>
  obtain ⟨k,hk,rfl,hno,hb⟩:=hrel
  have Hno:=hide hno
  clear hno
  by_cases hlt:k<l.length
  ·have ha:=above_any l _ (k:Int) wr hl (hv.below hb)
   have hab:=above_at l (k:Int)
   have hal:=above_len l (k:Int)
   have hcd:circ l (k:Int) ↔ par l (((aboveL l (k:Int)).getLast?).getD (k:Int))=(k:Int):=⟨fun h=>h.2,fun h=>⟨⟨by omega,by omega⟩,h⟩⟩
   generalize aboveL l (k:Int)=L at *
   have Ha:=hide ha
   have Hab:=hide hab
   have Hcd:=hide hcd
   clear ha hab hcd
   have hin:=fun (q:Int) (w1:World) (h:RI w1 (.slice A l.length c) l)=>in_any l _ q w1 (by omega) h
   have Hin:=hide hin
   clear hin
   go_upto_if 19 with (go_at_call 71;refine Ha.out.mono ?_;rintro e w1 ⟨v1,rfl,hown1,hb1⟩;obtain ⟨A',c',rfl,hc'⟩:=own_form hown1)
   have hri:=RI.list hown1 Hab.out hl
   have hb0:=hb.trans (hb1.mono hb.size)
   clear hown1
   go_cut [4] (fun u wx=>u=.int .i64 ((L.getLast?).getD (k:Int)) ∧ w1=wx)
   case first=>
    by_cases hL:0<L.length
    ·obtain ⟨b,o,rfl,hcell,_,_⟩:=hri.at_ (show L.length - 1<L.length by omega)
     have e:L.getD (L.length - 1) 0=(L.getLast?).getD (k:Int):=by
      rw [List.getLast?_eq_getElem?,List.getD,List.getElem?_eq_getElem (show L.length - 1<L.length by omega)];rfl
     have E:=hide e
     generalize (L.getLast?).getD (k:Int)=z at *
     rw [e] at hcell
     clear e
     go_wp2_with fail
     go_meet
     case rel=>exact ⟨rfl,rfl⟩
    ·have e:(L.getLast?).getD (k:Int)=(k:Int):=by
      obtain rfl:L=[]:=List.eq_nil_of_length_eq_zero (by omega)
      rfl
     have E:=hide e
     clear e
     generalize (L.getLast?).getD (k:Int)=z at *
     go_wp2_with fail
     go_meet
     case rel=>exact ⟨by rw [E.out],rfl⟩
   case rest=>
    obtain ⟨rfl,rfl⟩:=hcut
    have hq:=Hin.out ((L.getLast?).getD (k:Int)) w1 (hv.below hb0)
    generalize (L.getLast?).getD (k:Int)=z at *
    have Hq:=hide hq
    clear hq Hin
    have hpz:par l z = -1 ∨ isAt l (par l z):=par_at l z
    by_cases hy:circ l (k:Int)
    ·have e:=Hcd.out.1 hy
     have h1:(par l z == (k:Int))=true:=by simpa using e
     have hq2:Calls Tryz.prog 72 #[.slice A l.length c,.int .i64 z] w1 fun e w'=>e=.returned (.tuple #[.int .i64 (k:Int),.bool true]) ∧ w1=w':=by
      have:=in_yes l _ z (k:Int) w1 (by omega) (hv.below hb0) e ⟨by omega,by omega⟩
      exact this
     have Hq2:=hide hq2
     have E:=hide (circle_yes l k hlt Hno.out hy)
     clear hy e h1 hq2 hpz Hq
     go_wp2_with (go_at_call 72;refine Hq2.out.mono ?_;rintro e w2 ⟨rfl,rfl⟩)
     go_ret
     rw [E.out]
     exact ⟨rfl,hb0⟩
    ·have hne:par l z ≠ (k:Int):=fun e=>hy (Hcd.out.2 e)
     have Hy:=hide hy
     rcases hpz with hpz|hpz
     ·have Hq2:=hide (in_no l _ z w1 (by omega) (hv.below hb0) hpz)
      clear hy hne hpz Hq
      go_wp2_with (go_at_call 72;refine Hq2.out.mono ?_;rintro e w2 ⟨rfl,rfl⟩)
      go_roundw
      case rel=>
       refine ⟨k+1,by omega,by go_num,fun m hm=>?_,hb0⟩
       by_cases e:m=k
       ·subst e;exact Hy.out
       ·exact Hno.out m (by omega)
      case measure=>simp [intOf];omega
     ·have Hq2:=hide (in_yes l _ z _ w1 (by omega) (hv.below hb0) rfl hpz)
      have h1:(par l z == (k:Int))=false:=by simpa using hne
      generalize par l z=y at *
      clear hy hne hpz Hq
      go_wp2_with (go_at_call 72;refine Hq2.out.mono ?_;rintro e w2 ⟨rfl,rfl⟩)
      go_roundw
      case rel=>
       refine ⟨k+1,by omega,by go_num,fun m hm=>?_,hb0⟩
       by_cases e:m=k
       ·subst e;exact Hy.out
       ·exact Hno.out m (by omega)
      case measure=>simp [intOf];omega
  ·obtain rfl:k=l.length:=by omega
   have E:=hide (circle_no l Hno.out)
   go_wp2_with fail
   go_ret
   rw [E.out]
   exact ⟨rfl,hb⟩
end
section
theorem no_circle_stop {l:List Int} (hn:∀ k:Nat,k<l.length → ¬ circ l (k:Int)) {i:Int} (hi:isAt l i) {m:Nat} {p:Int} (h:UpAt l i m p (aboveL l i)) (hs:stops l i p (aboveL l i)):upN l i (m+1) = -1:=by
 have hnc:∀ x,isAt l x → ∀ j,1≤j → j≤l.length → upN l x j ≠ x:=by
  intro x hx j h1 h2 h3
  obtain ⟨n,rfl⟩:=Int.eq_ofNat_of_zero_le hx.1
  have hc:=(circ_iff l n hx).2 ⟨j,h1,h2,h3⟩
  exact hn n (by have:=hx.2;omega) hc
 rw [← h.cur]
 rcases hs with hs|hs|hs
 ·exact hs
 ·exfalso
  have hnd:(i :: aboveL l i).Nodup:=List.nodup_cons.2 ⟨h.not,h.nodup⟩
  have hlen:=nodup_len l.length _ hnd (fun x hx=>by
   rcases List.mem_cons.1 hx with rfl|hx
   ·exact hi
   ·exact h.at_ x hx)
  simp [h.len] at hlen
  exact hnc i hi (m+1) (by omega) hlen (by rw [← h.cur];exact hs)
 ·exfalso
  obtain ⟨a,ha⟩:=List.mem_iff_getElem?.1 hs
  have ham:a<m:=by rw [← h.len];exact (List.getElem?_eq_some_iff.1 ha).1
  rw [h.eq a ham,h.cur] at ha
  have ha:=Option.some.inj ha
  have hat:isAt l (upN l i (a+1)):=h.at_ _ (List.mem_of_getElem? (h.eq a ham))
  have sh:∀ d,upN l (upN l i (a+1)) d=upN l i (a+1+d):=by
   intro d
   induction d with
   | zero=>exact ((norm_cases l _).resolve_right fun hh=>hh.1 hat).2
   | succ d ih=>show par l _=par l _;rw [ih];rfl
  refine hnc _ hat (m - a) (by omega) (by have:=h.room;omega) ?_
  rw [sh,ha]
  congr 1
  omega
theorem circle_none (l:List Int) (h:circleL l<0):∀ k:Nat,k<l.length → ¬ circ l (k:Int):=by
 intro k hk hc
 unfold circleL at h
 cases hf:(List.range l.length).find? (fun (i:Nat)=>decide (circ l (i:Int))) with
 | none=>
  rw [List.find?_eq_none] at hf
  have:=hf k (by simpa using hk)
  simp [hc] at this
 | some n=>
  rw [hf] at h
  simp at h
  omega
theorem both_ways (l:List Int) (i k:Int) (hi:isAt l i) (hk:isAt l k):(i ∈ aboveL l k) ↔ (k ∈ belowL l i):=by
 obtain ⟨n,rfl⟩:=Int.eq_ofNat_of_zero_le hk.1
 unfold belowL
 rw [if_pos hi]
 simp only [List.mem_map,List.mem_filter,List.mem_range,decide_eq_true_eq]
 refine ⟨fun h=>⟨n,⟨by have:=hk.2;omega,fun e=>?_,h⟩,rfl⟩,fun ⟨a,⟨_,_,h⟩,e⟩=>?_⟩
 ·obtain ⟨m,p,hu,_⟩:=up_end l (n:Int)
  rw [← e] at h
  exact hu.not h
 ·have:a=n:=by omega
  subst this;exact h
end
section
open Go.RowKit
theorem own_take {w:World} {base:Nat} {e:TypeId} {g n c:Nat} {xs:List Value} (h:w.ownsRow base e 1 (.slice (some ⟨g,0,none⟩) n c) n xs) {k:Nat} (hk:k≤n):w.ownsRow base e 1 (.slice (some ⟨g,0,none⟩) k c) k (xs.take k):=by
 obtain ⟨hl,h|⟨g',cap,cur,hv,hb,hg,hn,hm,hs,ht⟩⟩:=h
 ·exact absurd h.1 (by simp)
 ·simp at hv
  obtain ⟨rfl,rfl⟩:=hv
  refine ⟨by simp at hl ⊢;omega,.inr ⟨g,c,cur,rfl,hb,hg,by omega,hm,hs,?_⟩⟩
  rw [← ht,List.take_take]
  congr 1
  omega
theorem cellOne_new (w:World) (v:Value) (t:TypeId):∀ j u,[v][j]? = some u → (w.alloc (.cells #[v] t)).cell? ((⟨w.heap.size,0,none⟩:Addr).add j)=some u:=cells_new w [v] t
theorem cellOne_drew (w:World) (v:Value) (t:TypeId):∀ j u,[v][j]? = some u → ((w.alloc (.cells #[v] t)).drew).cell? ((⟨w.heap.size,0,none⟩:Addr).add j)=some u:=cells_new w [v] t
theorem nodeInfo:(Tryz.prog.info? 190).map (fun i=>(i.zero,i.size,i.bytes))=some (some .nilIface,1,16):=by kernel_rfl
theorem oneIface (t:TypeId) (x:Value):∀ u ∈ [Value.iface t x],u.oneCell'=true:=by intro u hu;simp at hu;subst hu;rfl
def ifc (p:TypeId × Value):Value:=.iface p.1 p.2
def PushPost (base d:Nat) (ok:Bool) (w:World) (B:Nat) (e:Ending) (w':World):Prop:=∃ v xs,e=.returned (.tuple #[v,.bool ok]) ∧ w'.ownsRow base 190 1 v d (List.map ifc xs) ∧ Below B w w'
theorem push0 (op i:Int) (v:Value) (n base B:Nat) (xs:List (TypeId × Value)) (w:World) (ho:arity op=0) (hown:w.ownsRow base 190 1 v n (xs.map ifc)) (hn:n≤1000) (hB:B≤base) (hb:base≤w.heap.size) :
  Calls Tryz.prog 184 #[v,.int .i64 op,.int .i64 i] w (PushPost base (n+1) true w B):=by
 obtain ⟨i0,hi0,hz0,hz1,hz2⟩:=info_parts nodeInfo
 have Ho:=hide ho
 clear ho
 obtain ⟨A,c,rfl,hc⟩:=own_form hown
 go_enter Tryz.func184,Tryz.ntmps184
 go_wp2_with (first
  | (go_at_call 188;refine (arity_any _ _).mono ?_;rintro e w' ⟨rfl,rfl⟩;rw [Ho.out])
  | (at_builtin;refine wpList_append_own _ rfl _ _ 214 rfl base 190 i0 .nilIface 1 16 Tryz.underlying214 hi0 hz0 hz1 hz2 rfl (by decide) _ _ _ rfl (hown.alloc _) ⟨w.heap.size,0,none⟩ 1 1 [.iface 223 (.agg #[.int .i64 i])] rfl rfl (cellOne_new _ _ _) (oneIface _ _) (by unfold maxLen;omega) (by omega) (by simp;omega) ?_;intro v' w1 hown' hgrow _))
 go_ret2
 exact ⟨v',xs ++ [(223,.agg #[.int .i64 i])],rfl,by rw [List.map_append];exact hown',((Below.refl _ _).alloc (by omega) _).grown hgrow (by simp;omega) (fun k hk=>by have:=(hown.lt k hk).1;omega)⟩
theorem push1 (op i:Int) (v:Value) (n base B:Nat) (xs:List (TypeId × Value)) (w:World) (ho:arity op=1) (h1:1≤n) (hown:w.ownsRow base 190 1 v n (xs.map ifc)) (hn:n≤1000) (hB:B≤base) (hb:base≤w.heap.size) :
  Calls Tryz.prog 184 #[v,.int .i64 op,.int .i64 i] w (PushPost base n true w B):=by
 obtain ⟨i0,hi0,hz0,hz1,hz2⟩:=info_parts nodeInfo
 have Ho:=hide ho
 clear ho
 obtain ⟨g,c,rfl,hc,hgb,hgw⟩:=own_some hown (by omega)
 have hlen:=hown.1
 rw [List.length_map] at hlen
 obtain ⟨xt,xv,hx⟩:∃ xt xv,(xs.map ifc)[n - 1]? = some (.iface xt xv):=⟨(xs[n - 1]'(by omega)).1,(xs[n - 1]'(by omega)).2,by rw [List.getElem?_map,List.getElem?_eq_getElem (by omega)];rfl⟩
 have hcell:=own_cell hown rfl hx
 have hown2:=own_take hown (k:=n - 1) (by omega)
 have Hown:=hide hown
 have Hx:=hide hx
 have Hlen:=hide hlen
 clear hown hx hlen
 go_enter Tryz.func184,Tryz.ntmps184
 go_wp2_with (first
  | (go_at_call 188;refine (arity_any _ _).mono ?_;rintro e w' ⟨rfl,rfl⟩;rw [Ho.out])
  | fail)
 have s1:IntKind.i64.wrap ((n:Int) - 1)=(n:Int) - 1:=IntWalk.i64_in _ (by omega)
 have s2:0≤(n:Int) - 1:=by omega
 have s3:((n:Int) - 1).toNat=n - 1:=by omega
 have s4:(n:Int) - 1≤(c:Int):=by omega
 have s5:(n:Int) - 1<(n:Int):=by omega
 go_region_law (refine step_append_lies _ rfl (.tmp 33) (.tmp 42) 214 rfl base 190 i0 .nilIface 1 16 Tryz.underlying214 hi0 hz0 hz1 hz2 rfl (by decide) _ (n - 1) _ rfl (hown2.alloc _).drew ⟨w.heap.size,0,none⟩ 1 1 [.iface 225 (.agg #[.int .i64 i,.iface xt xv])] rfl rfl (cellOne_drew _ _ _) (oneIface _ _) (by omega) (by unfold maxLen;omega) (by omega) (by simp;omega) _ rfl ?_;intro g2 c2 w2 hown3 hg2 hat hlt)
 have h4:w2.ownsRow base 190 1 (.slice (some ⟨g2,0,none⟩) n c2) n (List.map ifc (xs.take (n - 1) ++ [(225,.agg #[.int .i64 i,.iface xt xv])])):=by
  have h:=hown3
  rw [List.map_append,List.map_take]
  rw [show n - 1+1=n by omega] at h
  exact h
 have hbl:Below B w w2:=(((Below.refl _ _).alloc (by omega) _).drew).grown hg2 (by simp;omega) (fun k hk=>by have:=(hown2.lt k hk).1;omega)
 go_wp2_with fail
 go_ret2
 exact ⟨_,_,rfl,h4,hbl⟩
theorem push2 (op i:Int) (v:Value) (n base B:Nat) (xs:List (TypeId × Value)) (w:World) (ho:arity op=2) (h1:2≤n) (hown:w.ownsRow base 190 1 v n (xs.map ifc)) (hn:n≤1000) (hB:B≤base) (hb:base≤w.heap.size) :
  Calls Tryz.prog 184 #[v,.int .i64 op,.int .i64 i] w (PushPost base (n - 1) true w B):=by
 obtain ⟨i0,hi0,hz0,hz1,hz2⟩:=info_parts nodeInfo
 have Ho:=hide ho
 clear ho
 obtain ⟨g,c,rfl,hc,hgb,hgw⟩:=own_some hown (by omega)
 have hlen:=hown.1
 rw [List.length_map] at hlen
 obtain ⟨xt,xv,hx⟩:∃ xt xv,(xs.map ifc)[n - 1]? = some (.iface xt xv):=⟨(xs[n - 1]'(by omega)).1,(xs[n - 1]'(by omega)).2,by rw [List.getElem?_map,List.getElem?_eq_getElem (by omega)];rfl⟩
 obtain ⟨yt,yv,hy⟩:∃ xt xv,(xs.map ifc)[n - 2]? = some (.iface xt xv):=⟨(xs[n - 2]'(by omega)).1,(xs[n - 2]'(by omega)).2,by rw [List.getElem?_map,List.getElem?_eq_getElem (by omega)];rfl⟩
 have hcell:=own_cell hown rfl hx
 have hcelly:=own_cell hown rfl hy
 have hown2:=own_take hown (k:=n - 2) (by omega)
 have Hown:=hide hown
 have Hx:=hide hx
 have Hy:=hide hy
 have Hlen:=hide hlen
 clear hown hx hlen hy
 go_enter Tryz.func184,Tryz.ntmps184
 go_wp2_with (first
  | (go_at_call 188;refine (arity_any _ _).mono ?_;rintro e w' ⟨rfl,rfl⟩;rw [Ho.out])
  | fail)
 have s1:IntKind.i64.wrap ((n:Int) - 1)=(n:Int) - 1:=IntWalk.i64_in _ (by omega)
 have s2:0≤(n:Int) - 1:=by omega
 have s3:((n:Int) - 1).toNat=n - 1:=by omega
 have s5:(n:Int) - 1<(n:Int):=by omega
 have s6:IntKind.i64.wrap ((n:Int) - 2)=(n:Int) - 2:=IntWalk.i64_in _ (by omega)
 have s7:0≤(n:Int) - 2:=by omega
 have s8:((n:Int) - 2).toNat=n - 2:=by omega
 have s9:(n:Int) - 2≤(c:Int):=by omega
 have s10:(n:Int) - 2<(n:Int):=by omega
 have s11:(1:Int)≤(n:Int):=by omega
 have s12:(2:Int)≤(n:Int):=by omega
 go_region_law (refine step_append_lies _ rfl (.tmp 54) (.tmp 68) 214 rfl base 190 i0 .nilIface 1 16 Tryz.underlying214 hi0 hz0 hz1 hz2 rfl (by decide) _ (n - 2) _ rfl (hown2.alloc _).drew ⟨w.heap.size,0,none⟩ 1 1 [.iface 227 (.agg #[.int .i64 i,.iface yt yv,.iface xt xv])] rfl rfl (cellOne_drew _ _ _) (oneIface _ _) (by omega) (by unfold maxLen;omega) (by omega) (by simp;omega) _ rfl ?_;intro g2 c2 w2 hown3 hg2 hat hlt)
 all_goals
  have h4:w2.ownsRow base 190 1 (.slice (some ⟨g2,0,none⟩) (n - 2+1) c2) (n - 1) (List.map ifc (xs.take (n - 2) ++ [(227,.agg #[.int .i64 i,.iface yt yv,.iface xt xv])])):=by
   have h:=hown3
   rw [List.map_append,List.map_take]
   rw [show n - 2+1=n - 1 by omega] at h ⊢
   exact h
  have hbl:Below B w w2:=(((Below.refl _ _).alloc (by omega) _).drew).grown hg2 (by simp;omega) (fun k hk=>by have:=(hown2.lt k hk).1;omega)
  go_wp2_with fail
  go_ret2
  exact ⟨_,_,rfl,h4,hbl⟩
theorem pushNo (op i:Int) (v:Value) (n base B:Nat) (xs:List (TypeId × Value)) (w:World) (ho:pushN n op=none) (hown:w.ownsRow base 190 1 v n (xs.map ifc)) (hn:n≤1000) (hB:B≤base) (hb:base≤w.heap.size) :
  Calls Tryz.prog 184 #[v,.int .i64 op,.int .i64 i] w fun e w'=>e=.returned (.tuple #[v,.bool false]) ∧ w=w':=by
 obtain ⟨A,c,rfl,hc⟩:=own_form hown
 have Hown:=hide hown
 clear hown
 have key:(arity op=1 ∧ n=0) ∨ (arity op=2 ∧ n=0) ∨ (arity op=2 ∧ n=1) ∨ arity op = -1:=by
  unfold pushN at ho
  have:arity op=0 ∨ arity op=1 ∨ arity op=2 ∨ arity op = -1:=by unfold arity;(repeat' split) <;> simp
  split at ho
  ·cases ho
  ·split at ho
   ·cases ho
   ·split at ho
    ·cases ho
    ·omega
 clear ho
 rcases key with ⟨ho,rfl⟩|⟨ho,rfl⟩|⟨ho,rfl⟩|ho
 all_goals
  have Ho:=hide ho
  clear ho
  go_enter Tryz.func184,Tryz.ntmps184
  go_wp2_with (first
   | (go_at_call 188;refine (arity_any _ _).mono ?_;rintro e w' ⟨rfl,rfl⟩;rw [Ho.out])
   | fail)
  go_ret2
  exact ⟨rfl,rfl⟩
theorem push_any (op i:Int) (v:Value) (n base B:Nat) (xs:List (TypeId × Value)) (w:World) {d:Nat} (ho:pushN n op=some d) (hown:w.ownsRow base 190 1 v n (xs.map ifc)) (hn:n≤1000) (hB:B≤base) (hb:base≤w.heap.size) :
  Calls Tryz.prog 184 #[v,.int .i64 op,.int .i64 i] w (PushPost base d true w B):=by
 unfold pushN at ho
 split at ho
 ·cases ho;exact push0 op i v n base B xs w (by assumption) hown hn hB hb
 ·split at ho
  ·rename_i h;cases ho;exact push1 op i v _ base B xs w h.1 h.2 hown hn hB hb
  ·split at ho
   ·rename_i h;cases ho;exact push2 op i v n base B xs w h.1 h.2 hown hn hB hb
   ·cases ho
end
section
open Go.RowKit
theorem rowN_append (a b:List Int):∀ d,rowN (a ++ b) d=(rowN a d).bind (rowN b):=by
 induction a with
 | nil=>intro d;rfl
 | cons x a ih=>intro d;rw [List.cons_append,rowN,rowN];cases pushN d x <;> simp [ih]
theorem rowN_snoc (a:List Int) (x:Int) (d:Nat):rowN (a ++ [x]) d=(rowN a d).bind fun d'=>pushN d' x:=by
 rw [rowN_append]
 cases rowN a d with
 | none=>rfl
 | some d'=>simp [rowN];cases pushN d' x <;> rfl
theorem pushN_le {d op:_} {d':Nat} (h:pushN d op=some d'):d'≤d+1:=by
 unfold pushN at h
 split at h
 ·cases h;omega
 ·split at h
  ·cases h;omega
  ·split at h
   ·cases h;omega
   ·cases h
def BuiltPost (r:Int) (w:World) (e:Ending) (w':World):Prop:=∃ v,e=.returned (.tuple #[v,.int .i64 r]) ∧ Below w.heap.size w w'
theorem built_any (l:List Item) (v:Value) (S:Nat → Prop) (w:World) (h:(sliceR itemR).one w S v l) (hS:∀ b,S b → b<w.heap.size) :
  Calls Tryz.prog 165 #[v] w (BuiltPost (checkE (l.map Item.op)) w):=by
 obtain ⟨A,c,rfl,hc,hc2⟩:=slice_form h
 by_cases h0:l.length=0
 ·have e:checkE (l.map Item.op)=12:=by unfold checkE;rw [if_pos (by simpa using h0)]
  rw [e,h0]
  go_enter Tryz.func165,Tryz.ntmps165
  go_wp2_with fail
  go_ret2
  exact ⟨_,rfl,Below.refl _ _⟩
 ·by_cases h1:64<l.length
  ·have e:checkE (l.map Item.op)=3:=by unfold checkE;rw [if_neg (by simpa using h0),if_pos (by simpa using h1)]
   rw [e]
   have hd:(((l.length:Nat):Int) == 0)=false:=beq_eq_false_iff_ne.2 (by omega)
   have hd2:decide ((64:Int)<(l.length:Int))=true:=by simp;omega
   go_enter Tryz.func165,Tryz.ntmps165
   go_wp2_with fail
   go_ret2
   exact ⟨_,rfl,Below.refl _ _⟩
  ·obtain ⟨b,o,rfl,hSb,hrow⟩:=slice_some h (by omega)
   have e:checkE (l.map Item.op)=if rowN (l.map Item.op) 0=some 1 then 0 else 17:=by unfold checkE;rw [if_neg (by simpa using h0),if_neg (by simpa using h1)]
   rw [e]
   clear e
   obtain ⟨R,hR⟩:∃ R,R=rowN (l.map Item.op) 0:=⟨_,rfl⟩
   rw [← hR]
   obtain ⟨E,hE⟩:∃ E:Int,E=if R=some 1 then 0 else 17:=⟨_,rfl⟩
   rw [← hE]
   have HR:=hide hR
   have HE:=hide hE
   have Hsl:=hide h
   clear hR hrow hE h
   have hd:(((l.length:Nat):Int) == 0)=false:=beq_eq_false_iff_ne.2 (by omega)
   have hd2:decide ((64:Int)<(l.length:Int))=false:=by simp;omega
   go_enter Tryz.func165,Tryz.ntmps165
   go_wp2_with fail
   go_loopw [4,19] (fun rv iv wr=>∃ (k d:Nat) (xs:List (TypeId × Value)),k≤l.length ∧ d≤k ∧ iv=.int .i64 (k:Int) ∧ rowN ((l.take k).map Item.op) 0=some d ∧ wr.ownsRow w.heap.size 190 1 rv d (xs.map ifc) ∧ Below w.heap.size w wr)
    (fun rv iv wr=>l.length - (intOf iv).toNat)
   case atStart=>exact ⟨0,0,[],Nat.zero_le _,Nat.le_refl _,rfl,rfl,World.ownsRow_nil _ _ _ _,Below.refl _ _⟩
   case round=>
    obtain ⟨k,d,xs,hk,hdk,rfl,hrn,hown,hbl⟩:=hrel
    have Hrn:=hide hrn
    clear hrn
    by_cases hlt:k<l.length
    ·obtain ⟨hcs,hok⟩:=items_at (slice_below Hsl.out hbl hS) hlt
     have hnx:=rowN_snoc ((l.take k).map Item.op) l[k].op 0
     rw [Hrn.out] at hnx
     have hall:rowN (l.map Item.op) 0=(rowN ((l.take k).map Item.op ++ [l[k].op]) 0).bind (rowN ((l.drop (k+1)).map Item.op)):=by
      rw [← rowN_append,List.append_assoc,List.singleton_append,← List.map_cons,← List.drop_eq_getElem_cons hlt,← List.map_append,List.take_append_drop]
     rw [← HR.out] at hall
     have htk:(l.take (k+1)).map Item.op=(l.take k).map Item.op ++ [l[k].op]:=by
      rw [List.take_succ_eq_append_getElem hlt,List.map_append];rfl
     have Hnx:=hide hnx
     have Hall:=hide hall
     have Htk:=hide htk
     have Hok:=hide hok
     have c0:=hcs 0 _ rfl
     have c1:=hcs 1 _ rfl
     have c2:=hcs 2 _ rfl
     have c3:=hcs 3 _ rfl
     have c4:=hcs 4 _ rfl
     have c5:=hcs 5 _ rfl
     have c6:=hcs 6 _ rfl
     have c7:=hcs 7 _ rfl
     have c8:=hcs 8 _ rfl
     clear hnx hall htk hok hcs
     generalize l[k]=x at *
     obtain ⟨xop,xln,xlv,xrn,xrv,xnm,xus,xli,xco⟩:=x
     simp only [Nat.add_zero] at c0 c1 c2 c3 c4 c5 c6 c7 c8
     have hsz:w.heap.size≤wr.heap.size:=hbl.size
     cases hp:pushN d xop with
     | none=>
      have Hp:=hide hp
      clear hp
      go_wp2_with fail
      refine (pushNo _ _ _ d w.heap.size 0 xs _ Hp.out (hown.alloc _) (by omega) (Nat.zero_le _) (by simp;omega)).mono ?_
      rintro e w' ⟨rfl,rfl⟩
      go_wp2_with fail
      go_ret2
      have e17:E=17:=by
       rw [HE.out,Hall.out,Hnx.out]
       simp [Hp.out]
      exact ⟨_,by rw [e17];rfl,hbl.alloc hsz _⟩
     | some d'=>
      have Hp:=hide hp
      clear hp
      go_wp2_with fail
      refine (push_any _ _ _ d w.heap.size w.heap.size xs _ Hp.out (hown.alloc _) (by omega) (Nat.le_refl _) (by simp;omega)).mono ?_
      rintro e w' ⟨v',xs',rfl,hown',hbl'⟩
      have Hown:=hide hown
      clear hown
      go_wp2_with fail
      go_roundw
      case rel=>exact ⟨k+1,d',xs',by omega,by have:=pushN_le Hp.out;omega,by go_num,by rw [Htk.out,Hnx.out];exact Hp.out,hown',(hbl.alloc hsz _).trans hbl'⟩
      case measure=>simp [intOf];omega
    ·obtain rfl:k=l.length:=by omega
     have hf:=Hrn.out
     rw [List.take_length,← HR.out] at hf
     have Hf:=hide hf
     clear hf
     obtain ⟨A,c',rfl,hc'⟩:=own_form hown
     cases hd1:((d:Int) != 1) with
     | true=>
      have e17:E=17:=by
       rw [HE.out,Hf.out,if_neg (by simp at hd1 ⊢;omega)]
      have E17:=hide e17
      clear e17
      go_wp2_with fail
      go_ret2
      exact ⟨_,by rw [E17.out];rfl,hbl⟩
     | false=>
      obtain rfl:d=1:=by simp at hd1;omega
      have e0:E=0:=by rw [HE.out,Hf.out,if_pos rfl]
      have E0:=hide e0
      clear e0
      have hxl:xs.length=1:=by have:=hown.1;simpa using this
      obtain ⟨x,rfl⟩:∃ x,xs=[x]:=List.length_eq_one_iff.1 hxl
      obtain ⟨g,c2,hv,hc2',_,_⟩:=own_some hown (by omega)
      cases hv
      have hcell:=own_cell hown rfl (j:=0) (u:=ifc x) rfl
      clear hown hxl
      go_wp2_with fail
      go_ret2
      exact ⟨_,by rw [E0.out];rfl,hbl⟩
theorem check_any (l:List Item) (v:Value) (S:Nat → Prop) (w:World) (h:(sliceR itemR).one w S v l) (hS:∀ b,S b → b<w.heap.size) :
  Calls Tryz.prog 131 #[v] w fun e w'=>e=.returned (.int .i64 (checkE (l.map Item.op))) ∧ Below w.heap.size w w':=by
 have H:=hide (built_any l v S w h hS)
 clear h hS
 go_enter Tryz.func131,Tryz.ntmps131
 go_wp2_with (go_at_call 165;refine H.out.mono ?_;rintro e w' ⟨nv,rfl,hb⟩)
 go_ret
 exact ⟨rfl,hb⟩
def itemOf (x:Inst):Item:=⟨x.op,⟨#[]⟩,0,⟨#[]⟩,0,⟨#[]⟩,⟨#[]⟩,0,0⟩
theorem itemOf_op (l:List Inst):(l.map itemOf).map Item.op=l.map Inst.op:=by rw [List.map_map];rfl
theorem itemInfo:(Tryz.prog.info? 116).map (fun i=>(i.zero,i.size,i.bytes))=some (some (.agg #[.int .i64 0,.string ⟨#[]⟩,.int .i64 0,.string ⟨#[]⟩,.int .i64 0,.string ⟨#[]⟩,.string ⟨#[]⟩,.int .i64 0,.int .i64 0]),9,104):=by kernel_rfl
theorem cells_at_new (w:World) (g:Nat) (L:List Value) (t:TypeId) (hg:g=w.heap.size):∀ j u,L[j]? = some u → (w.alloc (.cells L.toArray t)).cell? ((⟨g,0,none⟩:Addr).add j)=some u:=by
 subst hg;exact cells_new w L t
theorem item_one (x:Item):∀ u ∈ x.cells,u.oneCell'=true:=by
 intro u hu
 simp only [Item.cells,List.mem_cons,List.not_mem_nil,or_false] at hu
 rcases hu with rfl|rfl|rfl|rfl|rfl|rfl|rfl|rfl|rfl <;> rfl
theorem shape_any (l:List Inst) (v:Value) (S:Nat → Prop) (w:World) (h:(sliceR instR).one w S v l) (hS:∀ b,S b → b<w.heap.size) (hl:l.length≤1000) :
  Calls Tryz.prog 171 #[v] w fun e w'=>∃ u,e=.returned u ∧ w'.ownsRow w.heap.size 116 9 u l.length ((l.map itemOf).flatMap Item.cells) ∧ Below w.heap.size w w':=by
 obtain ⟨i0,hi0,hz0,hz1,hz2⟩:=info_parts itemInfo
 obtain ⟨A,c,rfl,hc,hc2⟩:=slice_form h
 have Hsl:=hide h
 clear h
 go_enter Tryz.func171,Tryz.ntmps171
 go_wp2_with fail
 go_loopw [3,8] (fun rv iv wr=>∃ (k:Nat),k≤l.length ∧ iv=.int .i64 (k:Int) ∧ wr.ownsRow w.heap.size 116 9 rv k (((l.take k).map itemOf).flatMap Item.cells) ∧ Below w.heap.size w wr)
  (fun rv iv wr=>l.length - (intOf iv).toNat)
 case atStart=>exact ⟨0,Nat.zero_le _,rfl,World.ownsRow_nil _ _ _ _,Below.refl _ _⟩
 case round=>
  obtain ⟨k,hk,rfl,hown,hbl⟩:=hrel
  by_cases hlt:k<l.length
  ·have hsl:=slice_below Hsl.out hbl hS
   obtain ⟨b,o,hv,_,_⟩:=slice_some hsl (by omega)
   subst hv
   obtain ⟨hcs,hok⟩:=insts_at hsl hlt
   have htk:((l.take (k+1)).map itemOf).flatMap Item.cells=((l.take k).map itemOf).flatMap Item.cells ++ (itemOf l[k]).cells:=by
    rw [List.take_succ_eq_append_getElem hlt,List.map_append,List.flatMap_append];simp
   have Htk:=hide htk
   have c0:=hcs 0 _ rfl
   have c1:=hcs 1 _ rfl
   have c2:=hcs 2 _ rfl
   have c3:=hcs 3 _ rfl
   have c4:=hcs 4 _ rfl
   have c5:=hcs 5 _ rfl
   have c6:=hcs 6 _ rfl
   clear htk hok hcs hsl
   generalize l[k]=x at *
   obtain ⟨xop,xla,xln,xra,xrn,xn,xu⟩:=x
   simp only [Nat.add_zero] at c0 c1 c2 c3 c4 c5 c6
   have hsz:w.heap.size≤wr.heap.size:=hbl.size
   go_wp2_with (at_builtin;refine wpList_append_own _ rfl _ _ 106 rfl w.heap.size 116 i0 (.agg #[.int .i64 0,.string ⟨#[]⟩,.int .i64 0,.string ⟨#[]⟩,.int .i64 0,.string ⟨#[]⟩,.string ⟨#[]⟩,.int .i64 0,.int .i64 0]) 9 104 Tryz.underlying106 hi0 hz0 hz1 hz2 rfl (by decide) _ _ _ rfl ((hown.alloc _).alloc _) ⟨wr.heap.size+1,0,none⟩ 1 1 [.int .i64 xop,.string ⟨#[]⟩,.int .i64 0,.string ⟨#[]⟩,.int .i64 0,.string ⟨#[]⟩,.string ⟨#[]⟩,.int .i64 0,.int .i64 0] rfl rfl (cells_at_new _ _ _ _ (by simp)) (item_one (itemOf ⟨xop,0,0,0,0,0,0⟩)) (by unfold maxLen;omega) (by omega) (by simp;omega) ?_;intro v2 w2 hown2 hg2 _)
   have hb2:Below w.heap.size w w2:=((hbl.alloc hsz _).alloc (by simp;omega) _).grown hg2 (by simp;omega) (fun j hj=>(hown.lt j hj).1)
   have Hown:=hide hown
   have Hown2:=hide hown2
   clear hown hown2 hg2
   go_wp2_with fail
   go_roundw
   case rel=>exact ⟨k+1,by omega,by go_num,by rw [Htk.out];exact Hown2.out,hb2⟩
   case measure=>simp [intOf];omega
  ·obtain rfl:k=l.length:=by omega
   rw [List.take_length] at hown
   have Hown:=hide hown
   clear hown
   go_wp2_with fail
   go_ret
   exact ⟨_,rfl,Hown.out,hbl⟩
end
end
end Go.Proofs.YtcindbpnaicemaaGreat
