/-
  Parts of the proof: Sinp5, Sinp6, Sinp7.
-/
import Derived.Test.YtglaiabelcefeaaGreatSinq3
import Derived.RangeFuncLeaves
import Derived.RangeFuncRecord
import Derived.Test.YtglaiabelcefeaaGreatProg
import Derived.Laws.StructEq
import Derived.WalkKit
import Derived.WalkLawsBesides
import Derived.ProofKit
import Derived.OpenShut
import Derived.Deep.Slices
import Derived.BigQuiet
import Derived.Deep.QuietTactic
import Derived.Test.YtglaiabelcefeaaGreatRows
import Derived.SizedLaws
import Derived.WalkSpells
import Derived.ScopeJumps
import Derived.WalkMore
import Derived.Handy
import Derived.Deep.DeepCutAuto
import Derived.Deep.CutBlock
set_option linter.unusedVariables false
set_option linter.unusedSimpArgs false
set_option linter.defProp false
set_option maxRecDepth 100000
set_option maxHeartbeats 16000000
namespace Go.Proofs.YtglaiabelcefeaaGreat
open Go.RowKit
section
section
def b6(st:aj)(ren:List Nat):ae->Prop
 | []=>True
 | (k,o) :: T=>(k<ren.length/\(∃e sz rows,o=some (.row e sz rows))/\st.tab.get (ren.getD k 0)=o)/\b6 st ren T
def fp(R:cu)(st:aj)(av:AV):Prop:=∃ren:List Nat,ren.Nodup/\R.r.ren ren=av/\b6 st ren R.tab
def ci(P:Program)(st:aj):List ResultVar->(List AV->Prop)->Prop
 | [],K=>K []
 | .tmp t :: l,K=>ci P st l fun avs=>K (st.get t :: avs)
 | .cell p ty :: l,K=>kC P ty st.tab (st.get p) fun av=>ci P st l fun avs=>K (av :: avs)
def dV:List AV->AV
 | [x]=>x
 | l=>.tup l
def vc(P:Program)(rs:List ResultVar)(Post:cu->Prop):Exit->aj->Prop
 | .normal,st=>ci P st rs fun avs=>∃R,Post R/\R.Ok/\fp R st (dV avs)
 | .ret,st=>ci P st rs fun avs=>∃R,Post R/\R.Ok/\fp R st (dV avs)
 | _,_=>False
def Le(P:Program)(rs:List ResultVar)(R:cu):Exit->aj->Prop
 | .normal,st=>ci P st rs fun avs=>fp R st (dV avs)
 | .ret,st=>ci P st rs fun avs=>fp R st (dV avs)
 | _,_=>False
theorem RS{P:Program}{rs:List ResultVar}{R:cu}{st:aj}:Le P rs R .ret st=ci P st rs fun avs=>fp R st (dV avs):=rfl
theorem MP{P:Program}{rs:List ResultVar}{Post:cu->Prop}{st:aj}:vc P rs Post .ret st=ci P st rs fun avs=>∃R,Post R/\R.Ok/\fp R st (dV avs):=rfl
def PF(P:Program)(rs:List ResultVar)(t:TypeId)(n:Nat)(Post:AV->List AV->List aB->Prop):Exit->aj->Prop
 | .normal,st=>ci P st rs fun avs=>∃cells' objs',Post (dV avs) cells' objs' /\ pi (dV avs)/\(cells'.length=n/\AV.ltL (objs'.length+1) cells' /\ ∀o∈objs',dF o)/\ct st ⟨st.n,[(0,.op 0 0 0)],cz 0 (.box t cells' :: objs'),objs'.length+1⟩
 | .ret,st=>ci P st rs fun avs=>∃cells' objs',Post (dV avs) cells' objs' /\ pi (dV avs)/\(cells'.length=n/\AV.ltL (objs'.length+1) cells' /\ ∀o∈objs',dF o)/\ct st ⟨st.n,[(0,.op 0 0 0)],cz 0 (.box t cells' :: objs'),objs'.length+1⟩
 | _,_=>False
theorem OG{P:Program}{rs:List ResultVar}{t:TypeId}{n:Nat}{Post:AV->List AV->List aB->Prop}{st:aj}:PF P rs t n Post .ret st=ci P st rs fun avs=>∃cells' objs',Post (dV avs) cells' objs' /\ pi (dV avs)/\(cells'.length=n/\AV.ltL (objs'.length+1) cells' /\ ∀o∈objs',dF o)/\ct st ⟨st.n,[(0,.op 0 0 0)],cz 0 (.box t cells' :: objs'),objs'.length+1⟩:=rfl
def IK(P:Program)(rs:List ResultVar)(t:TypeId)(n r:Nat)(av0:AV)(Post:AV->List AV->List aB->Prop):Exit->aj->Prop
 | .normal,st=>ci P st rs fun avs=>∃cells' objs',Post (dV avs) cells' objs' /\ pi (dV avs)/\(cells'.length=n/\AV.ltL (objs'.length+1) cells' /\ ∀o∈objs',dF o)/\ct st ⟨st.n,[(r,av0)],cz 0 (.box t cells' :: objs'),objs'.length+1⟩
 | .ret,st=>ci P st rs fun avs=>∃cells' objs',Post (dV avs) cells' objs' /\ pi (dV avs)/\(cells'.length=n/\AV.ltL (objs'.length+1) cells' /\ ∀o∈objs',dF o)/\ct st ⟨st.n,[(r,av0)],cz 0 (.box t cells' :: objs'),objs'.length+1⟩
 | _,_=>False
theorem Jw{P:Program}{rs:List ResultVar}{t:TypeId}{n r:Nat}{av0:AV}{Post:AV->List AV->List aB->Prop}{st:aj}:IK P rs t n r av0 Post .ret st=ci P st rs fun avs=>∃cells' objs',Post (dV avs) cells' objs' /\ pi (dV avs)/\(cells'.length=n/\AV.ltL (objs'.length+1) cells' /\ ∀o∈objs',dF o)/\ct st ⟨st.n,[(r,av0)],cz 0 (.box t cells' :: objs'),objs'.length+1⟩:=rfl
def b9:Nat->List AV->List (Nat×AV)
 | _,[]=>[]
 | k,a :: l=>(k,a) :: b9 (k+1) l
theorem fU:∀(l:List AV)(k t:Nat),aX (b9 k l) t=if k<=t then l.getD (t-k) .any else .any
 | [],k,t=>by simp[b9,aX]
 | a :: l,k,t=>by
  simp only[b9,aX];rw[fU l (k+1) t];by_cases h:t=k
  .subst h;simp
  .rw [UX h];by_cases h2:k<=t
   .rw [UZ (by omega),UZ h2,show t-k=(t-(k+1))+1 by omega];simp
   .rw [UX (by omega),UX h2]
section
variable {P:Program} {cx:Cx} {a:Act} {w w':World} {tab:ae} {st:aj} {L:Nat->Value} {nx:Nat}
theorem A4{ren:List Nat}:∀{T:ae} {k:Nat} {o:aB},b6 st ren T->T.get k=some o->k<ren.length/\(∃e sz rows,o=.row e sz rows)/\st.tab.get (ren.getD k 0)=some o
 | [],k,o,_,h=>by cases h
 | (j,oo) :: T,k,o,hp,h=>by
  rw[ae.gc] at h;split at h
  .rename_i e;subst e;subst h;obtain⟨h1,⟨e,sz,rows,h2⟩,h3⟩:=hp.1;cases h2;exact⟨h1,⟨e,sz,rows,rfl⟩,h3⟩
  .exact A4 hp.2 h
theorem lH{t:TypeId}{v u:Value}(h:(Instr.loadAt t v).run P w=.ok u w):(do loadVar t (<- asAddr v):Sem Value).run P w=.ok u w:=by
 cases v with
 | pointer p=>
  cases p with
  | none=>simp[Instr.loadAt,Instr.sureAddr,Sem.run_bind] at h
  | some ad=>simpa[Instr.loadAt,Instr.sureAddr,asAddr,Sem.run_bind] using h
 | _=>simp[Instr.loadAt,Instr.sureAddr,Sem.run_bind] at h
def nE(tmps:Array Value):ResultVar->Sem Value
 | .tmp t=>pure (tmps.getD t undef)
 | .cell p t=>do loadVar t (<- asAddr (tmps.getD p undef))
theorem sa(fn:Func)(tmps:Array Value):results fn tmps=(do
  let vs <- fn.results.mapM (nE tmps)
  pure (if h:vs.size=1 then vs[0] else .tuple vs)):=by
 unfold results
 congr 1
theorem xH(h:aH cx a w st L):∀(l:List ResultVar)(K:List AV->Prop),ci P st l K ->
  ∃vs avs,K avs/\vs.length=avs.length/\(∀(j:Nat)(v:Value)(av:AV),vs[j]? = some v->avs[j]? = some av->bL cx w st.tab L v av) /\
   (l.mapM (nE a.tmps):Sem (List Value)).run P w=.ok vs w
 | [],K,hp=>⟨[],[],hp,rfl,by simp,by simp⟩
 | .tmp t :: l,K,hp=>by
  obtain⟨vs,avs,h1,h2,h3,h4⟩:=xH h l _ hp;refine⟨a.tmps.getD t undef :: vs,st.get t :: avs,h1,by simp[h2],fun j v av h5 h6=>?_,?_⟩
  .cases j with
   | zero=>
    cases h5;cases h6;exact(h.env t).1
   | succ j=>exact h3 j v av (by simpa using h5) (by simpa using h6)
  .simp only[List.mapM_cons,nE,Sem.run_bind,Sem.run_pure,Result.andThen_ok,h4]
 | .cell p ty :: l,K,hp=>by
  obtain⟨u,au,h1,h2,h3,h4⟩:=(xQ (nx:=st.next) h.lay (fun id o hid=>(h.young id o hid).2) (h.env p).1 hp).one;obtain⟨vs,avs,h5,h6,h7,h8⟩:=xH h l _ h1;refine⟨u :: vs,au :: avs,h5,by simp[h6],fun j v av h9 h10=>?_,?_⟩
  .cases j with
   | zero=>
    cases h9;cases h10;exact h2
   | succ j=>exact h7 j v av (by simpa using h9) (by simpa using h10)
  .have:=lH (h4 w (Below.refl _ _));simp only[List.mapM_cons,nE];rw[Sem.run_bind,this];simp only[Sem.run_bind,Sem.run_pure,Result.andThen_ok,h8]
theorem wQ{fn:Func}{K:AV->Prop}(h:aH cx a w st L)(hp:ci P st fn.results.toList fun avs=>K (dV avs)):∃v av,K av/\bL cx w st.tab L v av/\(results fn a.tmps).run P w=.ok v w:=by
 obtain⟨vs,avs,h1,h2,h3,h4⟩:=xH h _ _ hp
 have hm:(results fn a.tmps).run P w=.ok (if h:vs.toArray.size=1 then vs.toArray[0] else .tuple vs.toArray) w:=by
  rw[sa,Sem.run_bind,Array.mapM_eq_mapM_toList];simp only[bind_pure_comp,Sem.run_map,h4];rfl
 refine⟨_,dV avs,h1,?_,hm⟩;clear hm h4 h1
 match vs,avs,h2,h3 with
 | [v],[av],_,h3=>exact h3 0 v av rfl rfl
 | [],[],_,h3=>exact .tup _ _ rfl (by simp)
 | v :: v' :: vs,av :: av' :: avs,h2,h3=>
  simp only[dV,Xi,Vl];rw[dif_neg (by omega)];exact .tup _ _ (by simpa using h2) fun j x av h4 h5=>h3 j x av (by simpa using h4) h5
end
structure iX(base:Nat)(w w':World):Prop where
 below:Below base w w'
 size:w'.heap.size=w.heap.size
 cell:∀p,w'.cell? p=w.cell? p
 cells:∀(k:Nat) cs t x,w.heap[k]? = some (Obj.cells cs t x)->w'.heap[k]? = some (Obj.cells cs t x)
 maps:∀(k:Nat) es c,w.heap[k]? = some (Obj.map es c)->w'.heap[k]? = some (Obj.map es c)
theorem iX.refl(base:Nat)(w:World):iX base w w:=⟨Below.refl _ _,rfl,fun _=>rfl,fun _ _ _ _ h=>h,fun _ _ _ h=>h⟩
theorem iX.trans{base:Nat}{w w' w'':World}(h:iX base w w')(k:iX base w' w''):iX base w w'':=
 ⟨h.below.trans k.below,k.size.trans h.size,fun p=>(k.cell p).trans (h.cell p),fun b cs t x hb=>k.cells b cs t x (h.cells b cs t x hb),fun b es c hb=>k.maps b es c (h.maps b es c hb)⟩
theorem iX.put{base k:Nat}{w:World}{o:Option (List Deferred)}(hk:base<=k)(h:w.heap[k]? = some (.deferred o))(o':Option (List Deferred)):iX base w (w.putObj k (.deferred o')):=by
 have hother:∀j,j≠k->(w.putObj k (.deferred o')).heap[j]? = w.heap[j]?:=fun j hj=>World.putObj_heap_other hj;have hlt:k<w.heap.size:=(Vm.1 h).1;refine⟨⟨rfl,rfl,rfl,by simp,fun j hj=>hother j (by omega)⟩,by simp,fun p=>?_,fun j cs t x hj=>?_,fun j es c hj=>?_⟩
 .by_cases e:p.block=k
  .have h1:(w.putObj k (.deferred o')).heap[p.block]? = some (.deferred o'):=by rw[e];exact World.putObj_heap_same hlt
   have h2:w.heap[p.block]? = some (.deferred o):=by rw[e];exact h
   unfold World.cell?;rw[h1,h2]
  .exact World.cell?_of_block (hother p.block e)
 .by_cases e:j=k
  .rw [e,h] at hj;cases hj
  .rw [hother j e];exact hj
 .by_cases e:j=k
  .rw [e,h] at hj;cases hj
  .rw [hother j e];exact hj
theorem iX.turn{base k:Nat}{w:World}{o:Loop}(hk:base<=k)(h:w.heap[k]? = some (.loop o))(o':Loop):iX base w (w.putObj k (.loop o')):=by
 have hother:∀j,j≠k->(w.putObj k (.loop o')).heap[j]? = w.heap[j]?:=fun j hj=>World.putObj_heap_other hj;have hlt:k<w.heap.size:=(Vm.1 h).1;refine⟨⟨rfl,rfl,rfl,by simp,fun j hj=>hother j (by omega)⟩,by simp,fun p=>?_,fun j cs t x hj=>?_,fun j es c hj=>?_⟩
 .by_cases e:p.block=k
  .have h1:(w.putObj k (.loop o')).heap[p.block]? = some (.loop o'):=by rw[e];exact World.putObj_heap_same hlt
   have h2:w.heap[p.block]? = some (.loop o):=by rw[e];exact h
   unfold World.cell?;rw[h1,h2]
  .exact World.cell?_of_block (hother p.block e)
 .by_cases e:j=k
  .rw [e,h] at hj;cases hj
  .rw [hother j e];exact hj
 .by_cases e:j=k
  .rw [e,h] at hj;cases hj
  .rw [hother j e];exact hj
section
variable {cx:Cx} {a:Act} {w w':World} {st:aj} {L:Nat->Value}
theorem vA(h:aH cx a w st L)(hk:iX cx.w0.heap.size w w'){ds:List Deferred}(hm:i6 cx.w0.heap.size w' (Sx cx w' st.tab L) ds):aH cx { a with defers:=ds } w' st L:=by
 have hS:∀b,Sx cx w st.tab L b->Sx cx w' st.tab L b:=fun b hb=>⟨by rw[hk.size];exact hb.1,hb.2.1,hb.2.2⟩;have hrv:∀{x av nx},bL cx w st.tab L x av->av.lt nx->bL cx w' st.tab L x av:=fun hr hl=>hr.mono hl (fun p _=>hk.cell p) hS (fun _ _ _ h=>h);refine⟨⟨h.lay.below.trans (jo hk.below),fun id o hid=>?_,h.lay.sep,fun b hb=>⟨by rw[hk.size];exact(h.lay.ex b hb).1,(h.lay.ex b hb).2⟩⟩,h.size,hm,h.young,fun t=>⟨hrv (h.env t).1 (h.env t).2,(h.env t).2⟩⟩;have ho:=h.lay.objs id o hid;have hy:=(h.young id o hid).2
 cases o with
 | box t cells=>
  obtain⟨g,cs,h1,h2,h3,h4,h5⟩:=ho;exact⟨g,cs,h1,h2,hk.cells _ _ _ _ h3,h4,fun j x av h6 h7=>⟨hrv (h5 j x av h6 h7).1 (ah.1 hy _ (r2 h7)),(h5 j x av h6 h7).2⟩⟩
 | row e sz rows=>
  obtain⟨h1,xs,hown,h2,h3⟩:=ho;refine⟨h1,xs,⟨hown.1,?_⟩,h2,fun i j row av ha hb=>?_⟩
  .rcases hown.2 with hn|⟨g,cap,cur,h4,hb,hh,rest⟩
   .exact .inl hn
   .exact .inr ⟨g,cap,cur,h4,hb,hk.cells _ _ _ _ hh,rest⟩
  .obtain ⟨x,hx,hr⟩:=h3 i j row av ha hb;exact⟨x,hx,hr.mono (fun p _=>hk.cell p) hS⟩
 | map ents=>
  obtain⟨b,es,ck,h1,h2,h3,h4⟩:=ho;exact⟨b,es,ck,h1,h2,hk.maps _ _ _ h3,h4⟩
 | nest e sz rows=>
  obtain⟨h1,xs,hown,h2,h3⟩:=ho;refine⟨h1,xs,⟨hown.1,?_⟩,h2,fun i j row av ha hb=>?_⟩
  .rcases hown.2 with hn|⟨g,cap,cur,h4,hb,hh,rest⟩
   .exact .inl hn
   .exact .inr ⟨g,cap,cur,h4,hb,hk.cells _ _ _ _ hh,rest⟩
  .obtain ⟨x,hx,hr⟩:=h3 i j row av ha hb;exact⟨x,hx,hrv hr (ah.1 (hy row (r2 ha)) _ (r2 hb))⟩
 | ghost vs env=>exact⟨ho.1,fun t ht=>hrv (ho.2 t ht) (fX hy t)⟩
end
theorem tc{cx:Cx}{a:Act}{w w':World}{st:aj}{L:Nat->Value}(h:aH cx a w st L)(hk:iX cx.w0.heap.size w w'):aH cx { a with defers:=[] } w' st L:=vA h hk (i6.nil _ _ _)
theorem kV{P:Program}{fn:Func}{tmps:Array Value}{R:Ending->World->Prop}{base:Nat}{S:Nat->Prop}:∀(ds:List Deferred)(w:World),i6 base w S ds->(∀w',iX base w w' -> LeavesIn Fence.wide 0 P fn tmps R [] .returning w')->LeavesInM Fence.wide 0 P fn tmps R ds .returning w
 | [],w,_,h=>h w (iX.refl _ _)
 | d :: ds,w,hm,h=>by
  obtain⟨k,rfl,h1,h2,h3⟩:=hm.2 d (Vr ..);have hk:=iX.put h1 h2 none;refine⟨by simp,.inl ⟨k,_,rfl,run_takeDeferred h2,kV (S:=S) ds _ ⟨(List.nodup_cons.1 hm.1).2,fun d' hd'=>?_⟩ fun w' hw'=>h w' (hk.trans hw')⟩⟩;obtain⟨k',rfl,h4,h5,h6⟩:=hm.2 d' (Vx _ hd');refine⟨k',rfl,h4,?_,h6⟩;have hne:k' ≠k:=fun e=>(List.nodup_cons.1 hm.1).1 (by rw[<- e];exact hd');rw[World.putObj_heap_other hne];exact h5
theorem k5 {P : Program} {f : FuncId} {fn : Func} {c : Code} (hf : P.funcs[f]? = some fn) (hb : fn.body = some c) (hname : (fn.name == "runtime.NumGoroutine") = false) {args : List AV} {Post : cu → Prop} {n : Nat} (hnt : fn.ntmps = n) {rs : List ResultVar} (hrs : fn.results = rs.toArray) (hn : Nat.ble args.length n = true)
  (h:∀(cx:Cx)(a:Act)(w:World)(L:Nat->Value),aH cx a w ⟨n,b9 0 args,[],0⟩ L->c.wp P (nJ cx (vc P rs Post)) a w):dp P f args Post:=by
 have hn:=Wo hn;subst hnt;have hrs:fn.results.toList=rs:=by rw[hrs]
 refine⟨fun vs w=>?_,fun S w vs hS hvs hv=>?_⟩
 ·have : ¬ fn.name = "runtime.NumGoroutine" := by simpa using hname
  simp[callFunc,Sem.run_bind,hf,this,hb]
 .let cx:Cx:=(Cx.mk0 S w hS)
  refine(callsIn_wide (n:=0)).1 (callsIn_of_wp_marks hf hb trivial (wpIn_wide.2 ?_));have hL:iM cx w [] (fun _=>undef):=⟨jo (Below.refl _ _),fun id o h=>(by cases h),fun id id' o o' g h=>(by cases h),fun b hb=>hb.elim⟩
  have hC:aH cx { tmps:=vs ++ Array.replicate (fn.ntmps-vs.size) undef,defers:=[] } w ⟨fn.ntmps,b9 0 args,[],0⟩ (fun _=>undef):=by
   refine⟨hL,?_,i6.nil _ _ _,fun id o h=>(by cases h),fun t=>?_⟩
   .simp;omega
   have e:(⟨fn.ntmps,b9 0 args,[],0⟩:aj).get t=args.getD t .any:=by
    show(if t<fn.ntmps then aX (b9 0 args) t else .any)=_;rw[fU];split
    .simp
    .simp [List.getD,Vh (show args.length<=t by omega)]
   rw[e];by_cases ht:t<args.length
   .have ht':t<vs.size:=by omega
    have e2:(vs ++ Array.replicate (fn.ntmps-vs.size) undef).getD t undef=vs[t]:=by
     rw[VG,VQ ht',UT ht'];rfl
    have e3:args.getD t .any=args[t]:=(by simp[List.getD,ht]);rw[e2,e3];have:=hv t _ _ (UT ht') (p0 ht);exact⟨.tree (this.mono (fun _ _=>rfl) fun b hb=>⟨hS b hb,⟨.inl hb,fun h=>h⟩,fun id o h=>by cases h⟩),this.lt 0⟩
   .have e3:args.getD t .any=.any:=(by simp[List.getD,Vh (W9 ht)]);rw[e3];exact⟨.tree (.any _),trivial⟩
  refine Code.wp_mono (fun e a w' ⟨st,L,h1,h2⟩=>?_) (h cx _ w _ hC);rw[<- hrs] at h1
  have key:(ci P st fn.results.toList fun avs=>∃R,Post R/\R.Ok/\fp R st (dV avs))->LeavesInM Fence.wide 0 P fn a.tmps (fun e w'=>∃v' L R,Post R/\R.Ok/\e=.returned v' /\ iM cx w' R.tab L/\bL cx w' R.tab L v' R.r) a.defers .returning w':=fun h1=>by
   refine kV _ _ h2.defers fun w2 hk2=>?_;have h2:=tc h2 hk2;clear hk2;generalize w2=w' at h2;obtain⟨v,av,⟨R,hPost,hok,ren,hnd,hr,ht⟩,h4,h5⟩:=wQ (K:=fun av=>∃R,Post R/\R.Ok/\fp R st av) h2 h1;refine⟨v,h5,v,fun k=>L (ren.getD k 0),R,hPost,hok,rfl,?_⟩;subst hr;have hget:=fun k o=>A4 (st:=st) (T:=R.tab) (k:=k) (o:=o) ht;have hsub:∀b,Sx cx w' st.tab L b->Sx cx w' R.tab (fun k=>L (ren.getD k 0)) b:=fun b hb=>⟨hb.1,hb.2.1,fun k o hk=>hb.2.2 _ o (hget k o hk).2.2⟩;refine⟨⟨h2.lay.below,fun k o hk=>?_,fun k k' o o' g h6 h7 h8 h9=>?_,fun b hb=>hb.elim⟩,pE hsub (fun k p hk=>?_) _ _ h4⟩
   .obtain ⟨h6,⟨e,sz,rows,rfl⟩,h7⟩:=hget k o hk;obtain⟨h8,xs,h9,h10,h11⟩:=h2.lay.objs _ _ h7;refine⟨h8,xs,h9,h10,fun i j row av h12 h13=>?_⟩;obtain⟨x,hx,hrt⟩:=h11 i j row av h12 h13;exact⟨x,hx,hrt.mono (fun _ _=>rfl) hsub⟩
   .obtain ⟨ha,_,hb⟩:=hget k o h6;obtain⟨ha',_,hb'⟩:=hget k' o' h7;have:=h2.lay.sep _ _ o o' g hb hb' h8 h9;simp only[List.getD,p0 ha,p0 ha',Vi] at this;have hp:=Vo.1 hnd;rcases Wp k k' with hlt|he|hlt
    .exact absurd this (hp k k' ha ha' hlt)
    .exact he
    .exact absurd this.symm (hp k' k ha' ha hlt)
   .unfold Kx at *
    cases ho:R.tab.get k with
    | none=>simp[ho] at hk
    | some o=>
     rw[(hget k o ho).2.2];simpa[ho] using hk
  cases e with
  | normal=>exact key h1
  | ret=>exact key h1
  | _=>exact h1.elim
theorem mC{P:Program}{st:aj}:∀{l:List ResultVar} {K K':List AV->Prop},(∀avs,K avs->K' avs)->ci P st l K->ci P st l K'
 | [],K,K',h,hp=>h _ hp
 | .tmp t :: l,K,K',h,hp=>mC (l:=l) (fun avs h2=>h _ h2) hp
 | .cell p ty :: l,K,K',h,hp=>by
  have step:∀av,(ci P st l fun avs=>K (av :: avs))->ci P st l fun avs=>K' (av :: avs):=fun av=>mC (l:=l) (fun avs h2=>h _ h2)
  have take:∀cs,ou P ty cs (fun av=>ci P st l fun avs=>K (av :: avs))->ou P ty cs (fun av=>ci P st l fun avs=>K' (av :: avs)):=fun cs ⟨h1,h2,h3⟩=>⟨h1,h2,by
   split at h3
   .rw [UZ (by assumption)];exact step _ h3
   .rw [UX (by assumption)];exact step _ h3⟩
  unfold ci kC at hp ⊢;split at hp
  .exact take _ hp
  .split at hp
   .rename_i h0
    first|simp only[h0]|skip
    exact⟨hp.1,take _ hp.2⟩
   .rename_i h0
    first|simp only[h0]|skip
    exact⟨hp.1,take _ hp.2⟩
   .rename_i h0
    first|simp only[h0]|skip
    exact⟨hp.1,take _ hp.2⟩
   .exact hp.elim
  .exact hp.elim
theorem QP{P:Program}{rs:List ResultVar}{R:cu}(hok:R.Ok)(e:Exit)(st:aj)(h:Le P rs R e st):vc P rs (fun R'=>R'=R) e st:=by
 cases e with
 | normal=>exact mC (fun avs h=>⟨R,rfl,hok,h⟩) h
 | ret=>exact mC (fun avs h=>⟨R,rfl,hok,h⟩) h
 | _=>exact h.elim
theorem ti {P : Program} {f : FuncId} {fn : Func} {c : Code} (hf : P.funcs[f]? = some fn) (hb : fn.body = some c) (hname : (fn.name == "runtime.NumGoroutine") = false) {args : List AV} {R : cu} {n : Nat} (hnt : fn.ntmps = n) {rs : List ResultVar} (hrs : fn.results = rs.toArray) (hn : Nat.ble args.length n = true)
  (hok:R.Ok) (h:∀(cx:Cx)(a:Act)(w:World)(L:Nat->Value),aH cx a w ⟨n,b9 0 args,[],0⟩ L->c.wp P (nJ cx (Le P rs R)) a w):am P f args R:=
 k5 hf hb hname hnt hrs hn fun cx a w L hc=>Code.wp_mono (fun e a w ⟨st,L,h1,h2⟩=>⟨st,L,QP hok e st h1,h2⟩) (h cx a w L hc)
theorem bj {P : Program} (hm : P.follows .mixedOrders = true) {f : FuncId} {fn : Func} {c : Code} (hf : P.funcs[f]? = some fn) (hb : fn.body = some c) (hname : (fn.name == "runtime.NumGoroutine") = false) {args : List AV} {Post : cu → Prop} {n : Nat} (hnt : fn.ntmps = n) {rs : List ResultVar} (hrs : fn.results = rs.toArray) (hn : Nat.ble args.length n = true)
  (h:bt P c (vc P rs Post) ⟨n,b9 0 args,[],0⟩):dp P f args Post:=
 k5 hf hb hname hnt hrs hn fun cx a w L hc=>ms hm c _ a w _ L hc h
theorem aa {P : Program} (hm : P.follows .mixedOrders = true) {f : FuncId} {fn : Func} {c : Code} (hf : P.funcs[f]? = some fn) (hb : fn.body = some c) (hname : (fn.name == "runtime.NumGoroutine") = false) {args : List AV} {R : cu} {n : Nat} (hnt : fn.ntmps = n) {rs : List ResultVar} (hrs : fn.results = rs.toArray) (hn : Nat.ble args.length n = true)
  (hok:R.Ok) (h:bt P c (Le P rs R) ⟨n,b9 0 args,[],0⟩):am P f args R:=
 ti hf hb hname hnt hrs hn hok fun cx a w L hc=>ms hm c _ a w _ L hc h
end
section
def gu(st:aj):List (Nat×AV)->Prop
 | []=>True
 | (t,av) :: l=>st.get t=av/\gu st l
def lz(st:aj):ae->Prop
 | []=>True
 | (id,o) :: l=>st.tab.get id=o/\lz st l
def bX(nx:Nat):ae->Prop
 | []=>True
 | (id,some o) :: l=>(id<nx/\o.lt nx)/\bX nx l
 | (_,none) :: l=>bX nx l
theorem vW{st:aj}{nx:Nat}:∀{l:List (Nat×AV)} (t:Nat),gu st l->cU nx l->(aX l t=st.get t\/aX l t=.any)/\(aX l t).lt nx
 | [],t,_,_=>⟨.inr rfl,trivial⟩
 | (k,av) :: l,t,h,hl=>by
  unfold aX;split
  .rename_i e;rw[e];exact⟨.inl h.1.symm,hl.1⟩
  .exact vW t h.2 hl.2
theorem mH{st:aj}{nx:Nat}:∀{l:ae} {id:Nat} {o:aB},lz st l->bX nx l->l.get id=some o->st.tab.get id=some o/\id<nx/\o.lt nx
 | [],id,o,_,_,h=>by cases h
 | (k,oo) :: l,id,o,h,hl,hg=>by
  rw[ae.gc] at hg;split at hg
  .rename_i e;subst e;subst hg;exact⟨h.1,hl.1.1,hl.1.2⟩
  .cases oo with
   | none=>exact mH h.2 hl hg
   | some=>exact mH h.2 hl.2 hg
theorem KH{st:aj}{n nx:Nat}{env:List (Nat×AV)}{tab:ae}(hn:st.n=n)(he:gu st env)(ht:lz st tab)(hl:cU nx env)(hl2:bX nx tab):ct st ⟨n,env,tab,nx⟩:=by
 intro cx a w L h;have hsub:∀id o,tab.get id=some o->st.tab.get id=some o:=fun id o hid=>(mH ht hl2 hid).1;have hS:∀b,Sx cx w st.tab L b->Sx cx w tab L b:=fun b hb=>⟨hb.1,hb.2.1,fun id o hid=>hb.2.2 id o (hsub id o hid)⟩
 have hK:∀id p,Kx tab L id=some p->Kx st.tab L id=some p:=fun id p hk=>by
  unfold Kx at *
  cases ho:tab.get id with
  | none=>simp[ho] at hk
  | some o=>rw[hsub id o ho];simpa[ho] using hk
 have hrv:∀x av,bL cx w st.tab L x av->bL cx w tab L x av:=fun x av hr=>by
  have:∀nx',av.lt nx' -> bL cx w tab L x av:=fun nx' hlt=>hr.mono hlt (fun _ _=>rfl) hS (fun id p _ hk=>hK id p hk)
  induction hr with
  | tree h=>exact .tree (h.mono (fun _ _=>rfl) hS)
  | osl x id h=>exact .osl x id fun sz v e=>h sz v (hK id _ e)
  | op x id i j h=>exact .op x id i j fun sz v e=>h sz v (hK id _ e)
  | agg xs cs hn hr ih=>exact .agg xs cs hn fun j x av h1 h2=>ih j x av h1 h2 fun nx' hlt=>(hr j x av h1 h2).mono hlt (fun _ _=>rfl) hS (fun id p _ hk=>hK id p hk)
  | tup xs cs hn hr ih=>exact .tup xs cs hn fun j x av h1 h2=>ih j x av h1 h2 fun nx' hlt=>(hr j x av h1 h2).mono hlt (fun _ _=>rfl) hS (fun id p _ hk=>hK id p hk)
  | fn fi xs cs hn hr ih=>exact .fn fi xs cs hn fun j x av h1 h2=>ih j x av h1 h2 fun nx' hlt=>(hr j x av h1 h2).mono hlt (fun _ _=>rfl) hS (fun id p _ hk=>hK id p hk)
  | bfn fi xs cs hn hr ih=>exact .bfn fi xs cs hn fun j x av h1 h2=>ih j x av h1 h2 fun nx' hlt=>(hr j x av h1 h2).mono hlt (fun _ _=>rfl) hS (fun id p _ hk=>hK id p hk)
 refine⟨L,⟨⟨h.lay.below,fun id o hid=>?_,fun id id' o o' g h1 h2=>h.lay.sep id id' o o' g (hsub id o h1) (hsub id' o' h2),fun b hb=>⟨(h.lay.ex b hb).1,fun id o hid=>(h.lay.ex b hb).2 id o (hsub id o hid)⟩⟩,h.size.trans hn,h.defers.mono (fun _ _=>rfl) hS,fun id o hid=>(mH ht hl2 hid).2,fun t=>?_⟩,hS⟩
 .have ho:=h.lay.objs id o (hsub id o hid);have hext:lG cx w st.tab L 0 w tab L:=⟨fun _ _=>rfl,hS,fun id p hlt=>by omega⟩
  cases o with
  | box t cells=>
   obtain⟨g,cs,h1,h2,h3,h4,h5⟩:=ho;exact⟨g,cs,h1,h2,h3,h4,fun j x av h6 h7=>⟨hrv x av (h5 j x av h6 h7).1,(h5 j x av h6 h7).2⟩⟩
  | row e sz rows=>
   obtain⟨h1,xs,h2,h3,h4⟩:=ho;refine⟨h1,xs,h2,h3,fun i j row av h5 h6=>?_⟩;obtain⟨x,hx,hr⟩:=h4 i j row av h5 h6;exact⟨x,hx,hext.rt hr⟩
  | map ents=>exact ho
  | nest e sz rows=>
   obtain⟨h1,xs,h2,h3,h4⟩:=ho;refine⟨h1,xs,h2,h3,fun i j row av h5 h6=>?_⟩;obtain⟨x,hx,hr⟩:=h4 i j row av h5 h6;exact⟨x,hx,hrv x av hr⟩
  | ghost vs env=>exact⟨ho.1,fun t ht=>hrv _ _ (ho.2 t ht)⟩
 .obtain ⟨h1,h2⟩:=vW t he hl;show bL cx w tab L _ (if t<n then aX env t else .any)/\(if t<n then aX env t else .any).lt nx;split
  case isFalse=>exact⟨.tree (.any _),trivial⟩
  refine⟨?_,h2⟩;rcases h1 with h1|h1
  .rw [h1];exact hrv _ _ (h.env t).1
  .rw [h1];exact .tree (.any _)
theorem ct.trans{st st' st'':aj}(h:ct st st')(h2:ct st' st''):ct st st'':=fun cx a w L hc=>(h cx a w L hc).elim fun L' hc'=>(h2 cx a w L' hc'.1).elim fun L2 h3=>⟨L2,h3.1,fun b hb=>h3.2 b (hc'.2 b hb)⟩
def wZ(l:List Nat):List (Nat×AV)->List (Nat×AV)
 | []=>[]
 | (t,av) :: r=>(t,av.ren l) :: wZ l r
theorem tP(l:List Nat):∀(r:List (Nat×AV))(t:Nat),aX (wZ l r) t=(aX r t).ren l
 | [],t=>rfl
 | (q,av) :: r,t=>by
  unfold wZ aX;split
  .rfl
  .exact tP l r t
def aB.ren(l:List Nat):aB->aB
 | .box t cells=>.box t (AV.renL l cells)
 | .row e sz rows=>.row e sz rows
 | .nest e sz rows=>.nest e sz (rows.map (AV.renL l))
 | .map ents=>.map ents
 | .ghost vs env=>.ghost vs (wZ l env)
theorem aB.ren_sz(l:List Nat)(o:aB):(o.ren l).sz=o.sz:=by cases o<;>simp[aB.ren,aB.sz,bu]
def gz(st:aj)(ids:List Nat):List (Nat×AV)->Prop
 | []=>True
 | (t,av) :: l=>st.get t=av.ren ids/\gz st ids l
def fV(st:aj)(ids:List Nat):ae->Prop
 | []=>True
 | (id,some o) :: l=>(id<ids.length/\st.tab.get (ids.getD id 0)=some (o.ren ids))/\fV st ids l
 | (_,none) :: l=>fV st ids l
theorem sP{st:aj}{ids:List Nat}{nx:Nat}:∀{l:List (Nat×AV)} (t:Nat),gz st ids l->cU nx l->((aX l t).ren ids=st.get t\/aX l t=.any)/\(aX l t).lt nx
 | [],t,_,_=>⟨.inr rfl,trivial⟩
 | (k,av) :: l,t,h,hl=>by
  unfold aX;split
  .rename_i e;rw[e];exact⟨.inl h.1.symm,hl.1⟩
  .exact sP t h.2 hl.2
theorem ll{st:aj}{ids:List Nat}{nx:Nat}:∀{l:ae} {id:Nat} {o:aB},fV st ids l->bX nx l->l.get id=some o->(id<ids.length/\st.tab.get (ids.getD id 0)=some (o.ren ids))/\id<nx/\o.lt nx
 | [],id,o,_,_,h=>by cases h
 | (k,some oo) :: l,id,o,h,hl,hg=>by
  rw[ae.gc] at hg;split at hg
  .rename_i e;subst e;cases hg;exact⟨h.1,hl.1.1,hl.1.2⟩
  .exact ll h.2 hl.2 hg
 | (k,none) :: l,id,o,h,hl,hg=>by
  rw[ae.gc] at hg;split at hg
  .cases hg
  .exact ll (l:=l) h hl hg
theorem mn{st:aj}{n nx:Nat}{env:List (Nat×AV)}{tab:ae}(ids:List Nat)(hnd:ids.Nodup)(hn:st.n=n)(he:gz st ids env)(ht:fV st ids tab)(hl:cU nx env)(hl2:bX nx tab):ct st ⟨n,env,tab,nx⟩:=by
 intro cx a w L h;have hget:∀k o,tab.get k=some o->k<ids.length/\st.tab.get (ids.getD k 0)=some (o.ren ids):=fun k o hk=>(ll ht hl2 hk).1;have hS:∀b,Sx cx w st.tab L b->Sx cx w tab (fun k=>L (ids.getD k 0)) b:=fun b hb=>⟨hb.1,hb.2.1,fun k o hk=>hb.2.2 _ _ (hget k o hk).2⟩
 have hK:∀k p,Kx tab (fun k=>L (ids.getD k 0)) k=some p->Kx st.tab L (ids.getD k 0)=some p:=fun k p hk=>by
  unfold Kx at *
  cases ho:tab.get k with
  | none=>simp[ho] at hk
  | some o=>
   rw[(hget k o ho).2];simpa[ho,aB.ren_sz] using hk
 refine⟨fun k=>L (ids.getD k 0),⟨⟨h.lay.below,fun k o hk=>?_,fun k k' o o' g h6 h7 h8 h9=>?_,fun b hb=>⟨(h.lay.ex b hb).1,fun k o hk=>(h.lay.ex b hb).2 _ _ (hget k o hk).2⟩⟩,h.size.trans hn,h.defers.mono (fun _ _=>rfl) hS,fun id o hid=>(ll ht hl2 hid).2,fun t=>?_⟩,hS⟩
 .obtain ⟨_,h7⟩:=hget k o hk;have ho:=h.lay.objs _ _ h7
  cases o with
  | box t cells=>
   obtain⟨g,cs,h1,h2,h3,h4,h5⟩:=ho;refine⟨g,cs,h1,h2,h3,by simpa[bu] using h4,fun j x av h6 h8=>?_⟩;have h9:=h5 j x (av.ren ids) h6 (by rw[bu,UV,h8];rfl);exact⟨pE hS hK av x h9.1,h9.2⟩
  | row e sz rows=>
   obtain⟨h1,xs,h2,h3,h4⟩:=ho;refine⟨h1,xs,h2,h3,fun i j row av h5 h6=>?_⟩;obtain⟨x,hx,hr⟩:=h4 i j row av h5 h6;exact⟨x,hx,hr.mono (fun _ _=>rfl) hS⟩
  | map ents=>exact ho
  | nest e sz rows=>
   obtain⟨h1,xs,h2,h3,h4⟩:=ho;refine⟨fun row hr=>by simpa[bu] using h1 (AV.renL ids row) (U3.2 ⟨row,hr,rfl⟩),xs,by simpa using h2,h3,fun i j row av h5 h6=>?_⟩;obtain⟨x,hx,hr⟩:=h4 i j (AV.renL ids row) (av.ren ids) (by rw[UV,h5];rfl) (by rw[bu,UV,h6];rfl);exact⟨x,hx,pE hS hK _ _ hr⟩
  | ghost vs env=>
   refine⟨ho.1,fun t ht=>pE hS hK _ _ ?_⟩;have h9:=ho.2 t ht
   rwa [tP] at h9
 .obtain ⟨ha,hb⟩:=hget k o h6;obtain⟨ha',hb'⟩:=hget k' o' h7;have:=h.lay.sep _ _ _ _ g hb hb' h8 h9;simp only[List.getD,p0 ha,p0 ha',Vi] at this;have hp:=Vo.1 hnd;rcases Wp k k' with hlt|he|hlt
  .exact absurd this (hp k k' ha ha' hlt)
  .exact he
  .exact absurd this.symm (hp k' k ha' ha hlt)
 .obtain ⟨h1,h2⟩:=sP t he hl;show bL cx w tab _ _ (if t<n then aX env t else .any)/\(if t<n then aX env t else .any).lt nx;split
  case isFalse=>exact⟨.tree (.any _),trivial⟩
  refine⟨?_,h2⟩;rcases h1 with h1|h1
  .refine pE hS hK _ _ ?_;rw[h1];exact(h.env t).1
  .rw [h1];exact .tree (.any _)
theorem bq{st:aj}(t e sz:Nat)(hg:st.get t=.c (.slice none 0 0)):ct st ⟨st.n,(t,.osl st.next) :: st.env,(st.next,some (.row e sz [])) :: st.tab,st.next+1⟩:=by
 intro cx a w L h;have hv:=(h.env t).1;rw[hg] at hv;have hv:=hv.c_inv
 have hput:a.put (some t) (.slice none 0 0)=a:=by
  unfold Act.put
  have:a.tmps.setIfInBounds t (.slice none 0 0)=a.tmps:=by
   apply XB (by simp);intro i h1 h2;rw[Array.getElem_setIfInBounds];split
   .rename_i e;subst e;rw[<- hv];simp[Array.getD,h2]
   .rfl
  simp only[this]
 refine⟨bp L st.next (.slice none 0 0),?_,fun b hb=>⟨hb.1,hb.2.1,fun k o hk hg=>?_⟩⟩
 rotate_left
 .have hk:ae.get ((st.next,some (.row e sz [])) :: st.tab) k=some o:=hk;rw[ae.gc] at hk;unfold bp at hg;split at hk
  .rename_i e1;rw[UZ e1] at hg;simp[aL] at hg
  .rename_i e1;rw[UX e1] at hg;exact hb.2.2 k o hk hg
 have:=j9 (ob:=.row e sz []) (v:=.slice none 0 0) (x:=.slice none 0 0) (av:=.osl st.next) h (Below.refl _ _) (fun g hg=>by simp[aL] at hg) (fun hext=>⟨by simp,[],kB ..,by simp,by simp⟩) trivial (fun hext=>?_) (VT _) (some t)
 .rw [hput] at this;exact this
 .refine .osl _ _ fun sz u hk=>?_;simp[Kx,ae.gc,bp] at hk;exact hk.2
theorem ja{st:aj}{n nx:Nat}{env:List (Nat×AV)}{tab:ae}(h:st.n=n/\(gu st env/\lz st tab)/\cU nx env/\bX nx tab):ct st ⟨n,env,tab,nx⟩:=KH h.1 h.2.1.1 h.2.1.2 h.2.2.1 h.2.2.2
theorem mu{st:aj}{n nx:Nat}{env:List (Nat×AV)}{tab:ae}(ids:List Nat)(h:ids.Nodup/\st.n=n/\(gz st ids env/\fV st ids tab)/\cU nx env/\bX nx tab):ct st ⟨n,env,tab,nx⟩:=mn ids h.1 h.2.1 h.2.2.1.1 h.2.2.1.2 h.2.2.2.1 h.2.2.2.2
def ax(st:aj)(t:Nat):Nat:=match st.get t with | .c (.int _ n)=>n.toNat|_=>0
theorem aE{x:Int}(h1:-9223372036854775808<=x)(h2:x<=9223372036854775807):IntKind.i64.wrap x=x:=by
 rw[IntKind.wrap_i64];omega
theorem jx{k:Nat}(h:k<=4611686018427387904):IntKind.i64.wrap ((k:Int)+1)=((k+1:Nat):Int):=by
 rw[aE (by omega) (by omega)];omega
def val(v:Value):cu:=⟨.c v,[],0⟩
theorem aD(v:Value):(val v).Ok:=⟨fun id o h=>(by cases h),trivial⟩
theorem vH{v:Value}{st:aj}{av:AV}(h:av=.c v):fp (val v) st av:=⟨[],List.nodup_nil,by rw[h];rfl,trivial⟩
theorem Cq{v:Value}{st:aj}{av:AV}:fp (val v) st av=(av=.c v):=propext ⟨fun⟨ren,_,h,_⟩=>h.symm,vH⟩
abbrev eI(n:Int):AV:=.c (.int .i64 n)
abbrev eB(b:Bool):AV:=.c (.bool b)
abbrev eS(s:ByteArray):AV:=.c (.string s)
abbrev sI(l:List Int):AV:=.sl 1 (l.map fun n=>[eI n])
theorem ab{α:Type}{f:α -> List AV}{l:List α}{k:Nat}(h:k<l.length):(l.map f)[k]?.getD []=f l[k]:=by
 rw[UV,p0 h];rfl
theorem aO{P:Program}{g:FuncId}{args:List AV}{v:Value}{K:Value->Prop}(h:am P g args (val v))(hk:K v):∃v,am P g args ⟨.c v,[],0⟩/\K v:=⟨v,h,hk⟩
theorem gv{I:aj->Prop}{μ:aj->Nat}{n:Nat}{st st':aj}(hw:ct st st')(hI:I st')(hm:μ st'<n):w7 I μ n st:=⟨st',hw,hI,hm⟩
end
section
theorem S4:bU Tryz.prog 32=true:=by kernel_rfl
theorem Qu:aq Tryz.prog 32=10:=by kernel_rfl
theorem PU:bQ Tryz.prog 40=some (Value.agg #[Value.slice none 0 0,Value.slice none 0 0]):=by kernel_rfl
theorem Qp:aq Tryz.prog 40=2:=by kernel_rfl
theorem Ts:tI Tryz.prog 5=some IntKind.u8:=by kernel_rfl
theorem Tg:tI Tryz.prog 3=some IntKind.i64:=by kernel_rfl
theorem PV:bA Tryz.prog 46=(59,5):=by kernel_rfl
theorem TI:zM Tryz.prog 3=Q5.int:=by kernel_rfl
theorem Lt:bT Tryz.prog 40 0=some 0:=by kernel_rfl
theorem RB:bU Tryz.prog 37=false:=by kernel_rfl
theorem PS:aq Tryz.prog 37=1:=by kernel_rfl
theorem RE:bU Tryz.prog 59=true:=by kernel_rfl
theorem RD:aq Tryz.prog 59=5:=by kernel_rfl
theorem Ih:bT Tryz.prog 32 6=some 6:=by kernel_rfl
theorem Re:bU Tryz.prog 27=false:=by kernel_rfl
theorem Sh:aq Tryz.prog 27=1:=by kernel_rfl
theorem Qv:bA Tryz.prog 27=(63,3):=by kernel_rfl
theorem Mj:bT Tryz.prog 32 7=some 7:=by kernel_rfl
theorem Rv:bU Tryz.prog 28=false:=by kernel_rfl
theorem Ra:aq Tryz.prog 28=1:=by kernel_rfl
theorem RY:bA Tryz.prog 28=(65,5):=by kernel_rfl
theorem LL:bT Tryz.prog 32 4=some 4:=by kernel_rfl
theorem Q4:bU Tryz.prog 25=false:=by kernel_rfl
theorem Sv:aq Tryz.prog 25=1:=by kernel_rfl
theorem Rg:bA Tryz.prog 25=(103,2):=by kernel_rfl
theorem JQ:bT Tryz.prog 32 5=some 5:=by kernel_rfl
theorem Rt:bU Tryz.prog 26=false:=by kernel_rfl
theorem SR:aq Tryz.prog 26=1:=by kernel_rfl
theorem Qb:bA Tryz.prog 26=(67,5):=by kernel_rfl
theorem Ky:bT Tryz.prog 32 0=some 0:=by kernel_rfl
theorem Sl:bU Tryz.prog 22=false:=by kernel_rfl
theorem Sm:aq Tryz.prog 22=1:=by kernel_rfl
theorem Rc:bA Tryz.prog 22=(9,1):=by kernel_rfl
theorem Jn:bT Tryz.prog 32 2=some 2:=by kernel_rfl
theorem JU:bT Tryz.prog 32 3=some 3:=by kernel_rfl
theorem P3:bU Tryz.prog 24=false:=by kernel_rfl
theorem RX:aq Tryz.prog 24=1:=by kernel_rfl
theorem Rd:bA Tryz.prog 24=(101,2):=by kernel_rfl
theorem Jd:bT Tryz.prog 32 8=some 8:=by kernel_rfl
theorem Rh:bU Tryz.prog 29=false:=by kernel_rfl
theorem PY:aq Tryz.prog 29=1:=by kernel_rfl
theorem Qg:bA Tryz.prog 29=(108,2):=by kernel_rfl
theorem KO:bT Tryz.prog 32 9=some 9:=by kernel_rfl
theorem SE:bU Tryz.prog 30=false:=by kernel_rfl
theorem QC:aq Tryz.prog 30=1:=by kernel_rfl
theorem PX:bA Tryz.prog 30=(114,2):=by kernel_rfl
theorem Kc:bT Tryz.prog 32 1=some 1:=by kernel_rfl
theorem S5:bU Tryz.prog 23=false:=by kernel_rfl
theorem Ri:aq Tryz.prog 23=1:=by kernel_rfl
theorem QL:bA Tryz.prog 23=(2,1):=by kernel_rfl
theorem RF:zM Tryz.prog 23=Q5.slice:=by kernel_rfl
theorem J0:bT Tryz.prog 63 2=some 2:=by kernel_rfl
theorem SD:bU Tryz.prog 61=false:=by kernel_rfl
theorem P1:aq Tryz.prog 61=1:=by kernel_rfl
theorem SQ:bA Tryz.prog 61=(119,7):=by kernel_rfl
theorem Kt:bT Tryz.prog 65 3=some 3:=by kernel_rfl
theorem KJ:bT Tryz.prog 67 3=some 3:=by kernel_rfl
theorem RJ:bU Tryz.prog 52=false:=by kernel_rfl
theorem Rs:aq Tryz.prog 52=1:=by kernel_rfl
theorem SH:bA Tryz.prog 52=(3,1):=by kernel_rfl
theorem SK:cV Tryz.prog 32=some ([(0,1),(1,1),(2,1),(3,1),(4,1),(5,1),(6,1),(7,1),(8,1),(9,1)],[Value.slice none 0 0,Value.slice none 0 0,Value.slice none 0 0,Value.slice none 0 0,Value.slice none 0 0,Value.slice none 0 0,Value.slice none 0 0,Value.slice none 0 0,Value.slice none 0 0,Value.slice none 0 0]):=by kernel_rfl
theorem SZ:bA Tryz.prog 43=(76,3):=by kernel_rfl
theorem IE:bT Tryz.prog 76 0=some 0:=by kernel_rfl
theorem Tm:bU Tryz.prog 3=false:=by kernel_rfl
theorem TB:aq Tryz.prog 3=1:=by kernel_rfl
theorem Ru:dx Tryz.prog 23=some (2,1,8):=by kernel_rfl
theorem Qd:bU Tryz.prog 40=true:=by kernel_rfl
theorem QE:dx Tryz.prog 37=some (56,6,112):=by kernel_rfl
theorem RP:cV Tryz.prog 40=some ([(0,1),(1,1)],[Value.slice none 0 0,Value.slice none 0 0]):=by kernel_rfl
theorem QU:bA Tryz.prog 37=(56,6):=by kernel_rfl
theorem QK:bU Tryz.prog 56=true:=by kernel_rfl
theorem Rz:aq Tryz.prog 56=6:=by kernel_rfl
theorem Qt:bA Tryz.prog 80=(84,8):=by kernel_rfl
theorem KQ:bT Tryz.prog 84 2=some 2:=by kernel_rfl
theorem Iy:bT Tryz.prog 84 0=some 0:=by kernel_rfl
theorem Md:bT Tryz.prog 84 1=some 1:=by kernel_rfl
theorem Sr:cV Tryz.prog 86=some ([(0,1),(1,1),(2,1)],[Value.int IntKind.i64 0,Value.int IntKind.i64 0,Value.int IntKind.i64 0]):=by kernel_rfl
theorem QT:dx Tryz.prog 82=some (86,3,24):=by kernel_rfl
theorem Lg:bT Tryz.prog 40 1=some 1:=by kernel_rfl
theorem Qf:bU Tryz.prog 38=false:=by kernel_rfl
theorem R6:aq Tryz.prog 38=1:=by kernel_rfl
theorem Ro:dx Tryz.prog 38=some (82,1,24):=by kernel_rfl
theorem QZ:cV Tryz.prog 89=some ([(0,1)],[Value.int IntKind.u64 0]):=by kernel_rfl
theorem QA:bQ Tryz.prog 59=some (Value.agg #[Value.slice none 0 0,Value.int IntKind.i64 0,Value.int IntKind.i64 0,Value.slice none 0 0,Value.slice none 0 0]):=by kernel_rfl
theorem S2:bU Tryz.prog 76=true:=by kernel_rfl
theorem QD:aq Tryz.prog 76=3:=by kernel_rfl
theorem Qy:bQ Tryz.prog 76=some (Value.agg #[Value.int IntKind.i64 0,Value.int IntKind.i64 0,Value.slice none 0 0]):=by kernel_rfl
theorem IM:bT Tryz.prog 76 2=some 2:=by kernel_rfl
theorem Ty:aq Tryz.prog 2=1:=by kernel_rfl
theorem P6:dx Tryz.prog 43=some (76,3,40):=by kernel_rfl
theorem Kq:bT Tryz.prog 89 0=some 0:=by kernel_rfl
theorem SL:bU Tryz.prog 33=false:=by kernel_rfl
theorem QQ:aq Tryz.prog 33=1:=by kernel_rfl
theorem SB:dx Tryz.prog 46=some (59,5,88):=by kernel_rfl
theorem SW:bQ Tryz.prog 56=some (Value.agg #[Value.slice none 0 0,Value.slice none 0 0,Value.int IntKind.i64 0,Value.int IntKind.i64 0,Value.slice none 0 0,Value.slice none 0 0]):=by kernel_rfl
theorem Jt:bT Tryz.prog 59 0=some 0:=by kernel_rfl
theorem Jq:bT Tryz.prog 59 4=some 4:=by kernel_rfl
theorem IT:bT Tryz.prog 59 1=some 1:=by kernel_rfl
theorem Ip:bT Tryz.prog 59 2=some 2:=by kernel_rfl
theorem R4:dx Tryz.prog 52=some (3,1,8):=by kernel_rfl
theorem LY:bT Tryz.prog 59 3=some 3:=by kernel_rfl
theorem Sp:cV Tryz.prog 56=some ([(0,2),(2,1),(3,1),(4,1),(5,1)],[Value.slice none 0 0,Value.slice none 0 0,Value.int IntKind.i64 0,Value.int IntKind.i64 0,Value.slice none 0 0,Value.slice none 0 0]):=by kernel_rfl
theorem E2:bT Tryz.prog 101 1=some 1:=by kernel_rfl
theorem FX:bT Tryz.prog 103 1=some 1:=by kernel_rfl
theorem P7:bU Tryz.prog 67=true:=by kernel_rfl
theorem Qm:aq Tryz.prog 67=5:=by kernel_rfl
theorem Rl:bQ Tryz.prog 67=some (Value.agg #[Value.string ByteArray.empty,Value.int IntKind.i64 0,Value.int IntKind.i64 0,Value.slice none 0 0,Value.int IntKind.i64 0]):=by kernel_rfl
theorem Jh:bT Tryz.prog 67 1=some 1:=by kernel_rfl
theorem Io:bT Tryz.prog 67 2=some 2:=by kernel_rfl
theorem QS:bU Tryz.prog 63=true:=by kernel_rfl
theorem SS:aq Tryz.prog 63=3:=by kernel_rfl
theorem RM:bQ Tryz.prog 63=some (Value.agg #[Value.int IntKind.i64 0,Value.int IntKind.i64 0,Value.slice none 0 0]):=by kernel_rfl
theorem Ja:bT Tryz.prog 63 0=some 0:=by kernel_rfl
theorem JN:bT Tryz.prog 63 1=some 1:=by kernel_rfl
theorem Rf:bU Tryz.prog 65=true:=by kernel_rfl
theorem Sb:aq Tryz.prog 65=5:=by kernel_rfl
theorem R7:bQ Tryz.prog 65=some (Value.agg #[Value.string ByteArray.empty,Value.int IntKind.i64 0,Value.int IntKind.i64 0,Value.slice none 0 0,Value.bool false]):=by kernel_rfl
theorem IX:bT Tryz.prog 65 1=some 1:=by kernel_rfl
theorem J8:bT Tryz.prog 65 2=some 2:=by kernel_rfl
theorem Hm:bT Tryz.prog 108 0=some 0:=by kernel_rfl
theorem F5:bT Tryz.prog 108 1=some 1:=by kernel_rfl
theorem Lw:bT Tryz.prog 67 4=some 4:=by kernel_rfl
theorem Ns:dx Tryz.prog 111=some (4,1,1):=by kernel_rfl
theorem Ox:De 111=false:=by kernel_rfl
theorem Pu:bA Tryz.prog 111=(4,1):=by kernel_rfl
theorem TE:bU Tryz.prog 4=false:=by kernel_rfl
theorem Uc:aq Tryz.prog 4=1:=by kernel_rfl
theorem JS:dx Tryz.prog 30=some (114,2,16):=by kernel_rfl
theorem NP:bU Tryz.prog 114=true:=by kernel_rfl
theorem Pf:aq Tryz.prog 114=2:=by kernel_rfl
theorem Gw:bT Tryz.prog 119 0=some 0:=by kernel_rfl
theorem E5:bT Tryz.prog 119 1=some 1:=by kernel_rfl
theorem E9:bT Tryz.prog 117 0=some 0:=by kernel_rfl
theorem HU:bT Tryz.prog 117 1=some 1:=by kernel_rfl
theorem Uj:bU Tryz.prog 2=false:=by kernel_rfl
theorem G8:bT Tryz.prog 119 2=some 3:=by kernel_rfl
theorem TG:zM Tryz.prog 2=Q5.int:=by kernel_rfl
theorem Je:bT Tryz.prog 56 0=some 0:=by kernel_rfl
theorem SU:bU Tryz.prog 54=true:=by kernel_rfl
theorem RO:aq Tryz.prog 54=2:=by kernel_rfl
theorem II:bT Tryz.prog 56 4=some 5:=by kernel_rfl
theorem NQ:bA Tryz.prog 122=(54,2):=by kernel_rfl
theorem P9:cV Tryz.prog 84=some ([(0,1),(1,1),(2,6)],[Value.int IntKind.i64 0,Value.int IntKind.i64 0,Value.slice none 0 0,Value.slice none 0 0,Value.int IntKind.i64 0,Value.int IntKind.i64 0,Value.slice none 0 0,Value.slice none 0 0]):=by kernel_rfl
theorem SA:bQ Tryz.prog 84=some (Value.agg #[Value.int IntKind.i64 0,Value.int IntKind.i64 0,Value.slice none 0 0,Value.slice none 0 0,Value.int IntKind.i64 0,Value.int IntKind.i64 0,Value.slice none 0 0,Value.slice none 0 0]):=by kernel_rfl
theorem RZ:aq Tryz.prog 84=8:=by kernel_rfl
theorem S6:bU Tryz.prog 84=true:=by kernel_rfl
theorem Rk:dx Tryz.prog 80=some (84,8,128):=by kernel_rfl
theorem S9:De 23=true:=by kernel_rfl
theorem Rp:cV Tryz.prog 76=some ([(0,1),(1,1),(2,1)],[Value.int IntKind.i64 0,Value.int IntKind.i64 0,Value.slice none 0 0]):=by kernel_rfl
theorem Q3:cV Tryz.prog 59=some ([(0,1),(1,1),(2,1),(3,1),(4,1)],[Value.slice none 0 0,Value.int IntKind.i64 0,Value.int IntKind.i64 0,Value.slice none 0 0,Value.slice none 0 0]):=by kernel_rfl
theorem H9:bT Tryz.prog 56 1=some 2:=by kernel_rfl
theorem I1:bT Tryz.prog 56 2=some 3:=by kernel_rfl
theorem LM:bT Tryz.prog 56 3=some 4:=by kernel_rfl
theorem Qi:bQ Tryz.prog 54=some (Value.agg #[Value.slice none 0 0,Value.slice none 0 0]):=by kernel_rfl
theorem Nz:cV Tryz.prog 142=some ([(0,1),(1,1)],[Value.int IntKind.i64 0,Value.int IntKind.i64 0]):=by kernel_rfl
theorem Oj:bQ Tryz.prog 142=some (Value.agg #[Value.int IntKind.i64 0,Value.int IntKind.i64 0]):=by kernel_rfl
theorem Nu:aq Tryz.prog 142=2:=by kernel_rfl
theorem F6:bT Tryz.prog 142 0=some 0:=by kernel_rfl
theorem FY:bT Tryz.prog 142 1=some 1:=by kernel_rfl
theorem Jg:bT Tryz.prog 54 1=some 1:=by kernel_rfl
theorem IW:bT Tryz.prog 54 0=some 0:=by kernel_rfl
theorem Rj:bU Tryz.prog 51=false:=by kernel_rfl
theorem Qj:aq Tryz.prog 51=1:=by kernel_rfl
theorem Ob:bU Tryz.prog 142=true:=by kernel_rfl
theorem Rq:dx Tryz.prog 51=some (142,2,16):=by kernel_rfl
theorem NE:cV Tryz.prog 151=some ([(0,1),(1,2),(3,2),(5,1),(6,1),(7,2)],[Value.int IntKind.i64 0,Value.string ByteArray.empty,Value.int IntKind.i64 0,Value.string ByteArray.empty,Value.int IntKind.i64 0,Value.string ByteArray.empty,Value.string ByteArray.empty,Value.int IntKind.i64 0,Value.int IntKind.i64 0]):=by kernel_rfl
theorem MA:dx Tryz.prog 145=some (151,9,104):=by kernel_rfl
theorem Oy:bU Tryz.prog 119=true:=by kernel_rfl
theorem MR:aq Tryz.prog 119=7:=by kernel_rfl
theorem Pr:bQ Tryz.prog 114=some (Value.agg #[Value.bool false,Value.int IntKind.i64 0]):=by kernel_rfl
theorem Pc:cV Tryz.prog 114=some ([(0,1),(1,1)],[Value.bool false,Value.int IntKind.i64 0]):=by kernel_rfl
theorem O3:dx Tryz.prog 122=some (54,2,48):=by kernel_rfl
theorem Sw:bQ Tryz.prog 32=some (Value.agg #[Value.slice none 0 0,Value.slice none 0 0,Value.slice none 0 0,Value.slice none 0 0,Value.slice none 0 0,Value.slice none 0 0,Value.slice none 0 0,Value.slice none 0 0,Value.slice none 0 0,Value.slice none 0 0]):=by kernel_rfl
theorem MZ:bU Tryz.prog 101=true:=by kernel_rfl
theorem OM:aq Tryz.prog 101=2:=by kernel_rfl
theorem MQ:bQ Tryz.prog 101=some (Value.agg #[Value.string ByteArray.empty,Value.int IntKind.i64 0]):=by kernel_rfl
theorem MW:bU Tryz.prog 103=true:=by kernel_rfl
theorem Pp:aq Tryz.prog 103=2:=by kernel_rfl
theorem Og:bQ Tryz.prog 103=some (Value.agg #[Value.string ByteArray.empty,Value.int IntKind.i64 0]):=by kernel_rfl
theorem N4:bU Tryz.prog 108=true:=by kernel_rfl
theorem Pn:aq Tryz.prog 108=2:=by kernel_rfl
theorem Np:bQ Tryz.prog 108=some (Value.agg #[Value.int IntKind.i64 0,Value.int IntKind.i64 0]):=by kernel_rfl
theorem P0:bQ Tryz.prog 30=some (Value.slice none 0 0):=by kernel_rfl
theorem Q2:tI Tryz.prog 33=some IntKind.u64:=by kernel_rfl
theorem Sa:De 52=false:=by kernel_rfl
theorem Uf:zM Tryz.prog 4=Q5.bool:=by kernel_rfl
theorem Km:bT Tryz.prog 76 1=some 1:=by kernel_rfl
theorem Q0:bA Tryz.prog 51=(142,2):=by kernel_rfl
theorem NL:bA Tryz.prog 145=(151,9):=by kernel_rfl
theorem Fi:bT Tryz.prog 119 3=some 5:=by kernel_rfl
theorem Gp:bT Tryz.prog 119 4=some 6:=by kernel_rfl
theorem NF:bA Tryz.prog 191=(193,2):=by kernel_rfl
theorem OV:iW Tryz.prog 193=(2,1):=by kernel_rfl
theorem S8:cV Tryz.prog 54=some ([(0,1),(1,1)],[Value.slice none 0 0,Value.slice none 0 0]):=by kernel_rfl
theorem NB:cV Tryz.prog 119=some ([(0,1),(1,2),(3,2),(5,1),(6,1)],[Value.int IntKind.i64 0,Value.int IntKind.i64 0,Value.int IntKind.i64 0,Value.int IntKind.i64 0,Value.int IntKind.i64 0,Value.int IntKind.i64 0,Value.int IntKind.i64 0]):=by kernel_rfl
theorem Q1:dx Tryz.prog 61=some (119,7,56):=by kernel_rfl
theorem Sc:dx Tryz.prog 27=some (63,3,40):=by kernel_rfl
theorem RQ:dx Tryz.prog 28=some (65,5,64):=by kernel_rfl
theorem Oi:bQ Tryz.prog 119=some (Value.agg #[Value.int IntKind.i64 0,Value.int IntKind.i64 0,Value.int IntKind.i64 0,Value.int IntKind.i64 0,Value.int IntKind.i64 0,Value.int IntKind.i64 0,Value.int IntKind.i64 0]):=by kernel_rfl
theorem NR:bU Tryz.prog 117=true:=by kernel_rfl
theorem Ov:aq Tryz.prog 117=2:=by kernel_rfl
theorem OJ:cV Tryz.prog 117=some ([(0,1),(1,1)],[Value.int IntKind.i64 0,Value.int IntKind.i64 0]):=by kernel_rfl
theorem EW:bT Tryz.prog 114 0=some 0:=by kernel_rfl
theorem GY:bT Tryz.prog 114 1=some 1:=by kernel_rfl
theorem Nk:bA Tryz.prog 200=(117,2):=by kernel_rfl
theorem Mt:bQ Tryz.prog 117=some (Value.agg #[Value.int IntKind.i64 0,Value.int IntKind.i64 0]):=by kernel_rfl
theorem OS:bQ Tryz.prog 207=some (Value.agg #[Value.int IntKind.i64 0,Value.int IntKind.i64 0,Value.slice none 0 0,Value.int IntKind.i64 0]):=by kernel_rfl
theorem Ot:aq Tryz.prog 207=4:=by kernel_rfl
theorem Hj:bT Tryz.prog 207 2=some 2:=by kernel_rfl
theorem EY:bT Tryz.prog 207 3=some 3:=by kernel_rfl
theorem Gr:bT Tryz.prog 207 0=some 0:=by kernel_rfl
theorem Td:bQ Tryz.prog 4=some (Value.bool false):=by kernel_rfl
theorem GQ:bT Tryz.prog 151 0=some 0:=by kernel_rfl
theorem Oc:cV Tryz.prog 193=some ([(0,1),(1,1)],[Value.int IntKind.i64 0,Value.int IntKind.i64 0]):=by kernel_rfl
theorem NH:dx Tryz.prog 191=some (193,2,16):=by kernel_rfl
theorem NJ:dx Tryz.prog 200=some (117,2,16):=by kernel_rfl
theorem GM:bT Tryz.prog 207 1=some 1:=by kernel_rfl
theorem Ny:bU Tryz.prog 207=true:=by kernel_rfl
theorem My:cV Tryz.prog 207=some ([(0,1),(1,1),(2,1),(3,1)],[Value.int IntKind.i64 0,Value.int IntKind.i64 0,Value.slice none 0 0,Value.int IntKind.i64 0]):=by kernel_rfl
theorem JF:bT Tryz.prog 65 4=some 4:=by kernel_rfl
theorem TL:bQ Tryz.prog 3=some (Value.int IntKind.i64 0):=by kernel_rfl
theorem TK:bQ Tryz.prog 2=some (Value.int IntKind.i64 0):=by kernel_rfl
end
section
def SC(P:Program)(c:Code)(Q:Exit->aj->Prop)(st:aj):Prop:=∀(cx:Cx)(a:Act)(w:World)(L:Nat->Value),aH cx a w st L->c.wp P (nJ cx Q) a w
section
variable {P:Program} {x y:Code} {Q Q':Exit->aj->Prop} {st st':aj}
theorem jJ(hm:P.follows .mixedOrders=true)(h:bt P x Q st):SC P x Q st:=fun cx a w L hc=>ms hm x Q a w st L hc h
theorem SC.mono(h:SC P x Q st)(hq:∀e st,Q e st->Q' e st):SC P x Q' st:=fun cx a w L hc=>Code.wp_mono (fun e a w ⟨st',L',h1,h2⟩=>⟨st',L',hq e st' h1,h2⟩) (h cx a w L hc)
theorem SC.weak(hw:ct st st')(h:SC P x Q st'):SC P x Q st:=fun cx a w L hc=>(hw cx a w L hc).elim fun L' hc'=>h cx a w L' hc'.1
theorem SN(h:SC P x (lU (SC P y Q) Q) st):SC P (.seq x y) Q st:=fun cx a w L hc=>
 wp_seq (Code.wp_mono (fun e a' w' ⟨st',L',h1,h2⟩=>by
  cases e with
  | normal=>exact h1 cx a' w' L' h2
  | _=>exact⟨st',L',h1,h2⟩) (h cx a w L hc))
theorem dZ{I:aj->Prop}(hw:ct st st')(h:I st'):FG I st:=⟨st',hw,h⟩
theorem iO(I:aj->Prop)(h:SC P x (lU (FG I) Q) st)(h2:∀st,I st->SC P y Q st):SC P (.seq x y) Q st:=
 SN (h.mono fun e st h=>by
  cases e with
  | normal=>
   obtain⟨st',hw,hI⟩:=h;exact(h2 st' hI).weak hw
  | _=>exact h)
end
theorem BZ {P : Program} {f : FuncId} {fn : Func} {c : Code} (hf : P.funcs[f]? = some fn) (hb : fn.body = some c) (hname : (fn.name == "runtime.NumGoroutine") = false) {args : List AV} {R : cu} {n : Nat} (hnt : fn.ntmps = n) {rs : List ResultVar} (hrs : fn.results = rs.toArray) (hn : Nat.ble args.length n = true)
  (hok:R.Ok) (h:SC P c (Le P rs R) ⟨n,b9 0 args,[],0⟩):am P f args R:=ti hf hb hname hnt hrs hn hok h
theorem BA {P : Program} {f : FuncId} {fn : Func} {c : Code} (hf : P.funcs[f]? = some fn) (hb : fn.body = some c) (hname : (fn.name == "runtime.NumGoroutine") = false) {args : List AV} {Post : cu → Prop} {n : Nat} (hnt : fn.ntmps = n) {rs : List ResultVar} (hrs : fn.results = rs.toArray) (hn : Nat.ble args.length n = true)
  (h:SC P c (vc P rs Post) ⟨n,b9 0 args,[],0⟩):dp P f args Post:=k5 hf hb hname hnt hrs hn h
theorem cg{P:Program}{f:FuncId}{args:List AV}{v:Value}(he:fy P f)
  (h:∀(S:Nat->Prop)(w:World)(vs:Array Value),FJ w S->vs.size=args.length->(∀(j:Nat)(v:Value)(av:AV),vs[j]? = some v->args[j]? = some av->RT w S v av)->Calls P f vs w fun e w'=>e=.returned v/\Below w.heap.size w w'):am P f args (val v):=
 ⟨he,fun S w vs h1 h2 h3=>(h S w vs h1 h2 h3).mono fun e w' ⟨h4,h5⟩=>⟨v,fun _=>undef,val v,rfl,aD v,h4,⟨jo h5,fun id o h=>(by cases h),fun id id' o o' g h=>(by cases h),fun b hb=>hb.elim⟩,.tree (.c v)⟩⟩
theorem am.calls{P:Program}{f:FuncId}{args:List AV}{v:Value}(h:am P f args (val v)){w:World}{vs:Array Value}(h2:vs.size=args.length)(h3:∀(j:Nat)(v:Value)(av:AV),vs[j]? = some v->args[j]? = some av->RT w (fun b=>b<w.heap.size) v av)(hA:Et w:=by exact NT _) :
  Calls P f vs w fun e w'=>e=.returned v/\Below w.heap.size w w':=
 (h.2 _ w vs ⟨fun b hb=>hb,hA,fun b hb=>UY hb hA.le⟩ h2 h3).mono fun e w' ⟨v',L,R,h0,_,h4,h5,h6⟩=>by
  subst h0;obtain rfl:=h6.c_inv;exact⟨h4,h5.below.below fun b hb=>hb⟩
def gl(e:TypeId)(sz:Nat)(rows:List (List AV)):cu:=⟨.osl 0,[(0,some (.row e sz rows))],1⟩
theorem cW(e:TypeId)(sz:Nat)(rows:List (List AV)):(gl e sz rows).Ok:=by
 refine⟨fun id o h=>?_,WK⟩;simp only[gl,ae.gc] at h;split at h
 .rename_i e;cases h;subst e;exact⟨WK,trivial⟩
 .cases h
theorem aV{e:TypeId}{sz:Nat}{rows:List (List AV)}{st:aj}{id:Nat}:st.tab.get id=some (.row e sz rows)->fp (gl e sz rows) st (.osl id):=fun h=>
 ⟨[id],by simp,rfl,⟨WK,⟨e,sz,rows,rfl⟩,h⟩,trivial⟩
theorem cK{Post:cu->Prop}{st:aj}{v:Value}(h:Post (val v)):∃R,Post R/\R.Ok/\fp R st (.c v):=⟨_,h,aD v,vH rfl⟩
theorem zQ{Post:cu->Prop}{st:aj}{id:Nat}{e:TypeId}{sz:Nat}{rows:List (List AV)}(hg:st.tab.get id=some (.row e sz rows))(h:Post (gl e sz rows)):∃R,Post R/\R.Ok/\fp R st (.osl id):=⟨_,h,cW ..,aV hg⟩
theorem vO{u:Option (Nat×List Nat)}{P:Program}{st:aj}{g:FuncId}{args:List AV}{K:AV->aj->Prop}{Post:cu->Prop}(h:dp P g (args.map (gj st.tab)) Post)(hk:∀R,Post R->(m8 args\/(R.r.plain/\R.tab.plain))/\K (R.r.shift st.next) { st with tab:=R.tab.shift st.next ++ st.tab,next:=st.next+R.n }):gb u P st g args K:=.inl (.inl ⟨Post,h,hk⟩)
theorem pg{u:Option (Nat×List Nat)}{P:Program}{st:aj}{g:FuncId}{args:List AV}{K:AV->aj->Prop}{R:cu}(h:am P g (args.map (gj st.tab)) R)(ho:m8 args\/(R.r.plain/\R.tab.plain))(hk:K (R.r.shift st.next) { st with tab:=R.tab.shift st.next ++ st.tab,next:=st.next+R.n }):gb u P st g args K:=
 .inl (.inl ⟨_,h,fun R' e=>by subst e;exact⟨ho,hk⟩⟩)
theorem al{u:Option (Nat×List Nat)}{P:Program}{st:aj}{g:FuncId}{args:List AV}{dst:Option Nat}{K:aj->Prop}{v:Value}(h:am P g (args.map (gj st.tab)) (val v))(hk:K (st.put dst (.c v))):gb u P st g args (uj dst K):=
 pg h (.inr ⟨trivial,trivial⟩) hk
def UP:=(And.intro (And.intro (And.intro (And.intro (And.intro (And.intro (And.intro @Ci @C7) (And.intro @Bo @FM)) (And.intro (And.intro @CT @AF) (And.intro @B8 @Db))) (And.intro (And.intro (And.intro @GS @wH) (And.intro @Ce @Hl)) (And.intro (And.intro @qT @wL) (And.intro @ub (And.intro @CE @J6))))) (And.intro (And.intro (And.intro (And.intro @RH @TT) (And.intro @SJ @RA)) (And.intro (And.intro @NZ @Ph) (And.intro @Kv @It))) (And.intro (And.intro (And.intro @Ht @Gs) (And.intro @Fu @GO)) (And.intro (And.intro @Jc @C9) (And.intro @Cu (And.intro @FV @zP)))))) (And.intro (And.intro (And.intro (And.intro (And.intro @Ba @BU) (And.intro @wD @uz)) (And.intro (And.intro @RU @S0) (And.intro @Su @Ry))) (And.intro (And.intro (And.intro @JB @HC) (And.intro @Gh @DD)) (And.intro (And.intro @yJ @JX) (And.intro @Ck (And.intro @KE @Mc))))) (And.intro (And.intro (And.intro (And.intro @GD @Hv) (And.intro @O2 @Qk)) (And.intro (And.intro @y7 @Jy) (And.intro @Pd (And.intro @CS @Jr)))) (And.intro (And.intro (And.intro @xC @un) (And.intro @O6 @F9)) (And.intro (And.intro @EX @rY) (And.intro @uh (And.intro @G7 @FL))))))) (And.intro (And.intro (And.intro (And.intro (And.intro (And.intro @zA @EZ) (And.intro @F2 @B4)) (And.intro (And.intro @BT @Ji) (And.intro @MI @Kk))) (And.intro (And.intro (And.intro @HK @Gj) (And.intro @Dh @CX)) (And.intro (And.intro @Bp @Cq) (And.intro @RS (And.intro @MP @Gm))))) (And.intro (And.intro (And.intro (And.intro @yL @Di) (And.intro @yW @Fc)) (And.intro (And.intro @CK @Cs) (And.intro @FF (And.intro @AC @wb)))) (And.intro (And.intro (And.intro @xI @xR) (And.intro @wG @FS0)) (And.intro (And.intro @Gv @wv) (And.intro @Bd (And.intro @yp @yy)))))) (And.intro (And.intro (And.intro (And.intro (And.intro @xb @xX) (And.intro @Bu @Fj)) (And.intro (And.intro @rS @yY) (And.intro @E4 @wy))) (And.intro (And.intro (And.intro @FZ @ws) (And.intro @CD @AW)) (And.intro (And.intro @w8 @C8) (And.intro @pW (And.intro @Ca @Cc))))) (And.intro (And.intro (And.intro (And.intro @C3 @zd) (And.intro @yx @G2)) (And.intro (And.intro @Ko @ul) (And.intro @G5 (And.intro @GV @yN)))) (And.intro (And.intro (And.intro @wz @qW) (And.intro @Pk @OI)) (And.intro (And.intro @Ay @BN) (And.intro @zG (And.intro @OG @Jw))))))))
def UN:=(And.intro (And.intro (And.intro (And.intro (And.intro @ae.gc (And.intro @We @WT)) (And.intro (And.intro @WY @WD) (And.intro @WB @W8))) (And.intro (And.intro (And.intro @VE @Vn) (And.intro @Vl @Wd)) (And.intro (And.intro @List.drop_succ_cons.{0} @List.drop_zero.{0}) (And.intro @List.take_succ_cons.{0} @Va)))) (And.intro (And.intro (And.intro (And.intro @List.headD_cons.{0} @Vd) (And.intro @XC @WF)) (And.intro (And.intro @true_and @and_true) (And.intro @Vi @Wc))) (And.intro (And.intro (And.intro @VR @VH) (And.intro @Nat.succ_ne_self @Nat.one_ne_zero)) (And.intro (And.intro @AV.c.injEq @Value.bool.injEq) (And.intro @Value.int.injEq @false_implies))))) (And.intro (And.intro (And.intro (And.intro (And.intro @U7 @Vf) (And.intro @WP @Int.ofNat_lt)) (And.intro (And.intro @Int.ofNat_le @VD) (And.intro @not_false_eq_true @not_true_eq_false))) (And.intro (And.intro (And.intro @UU @false_and) (And.intro @and_false @Nat.succ_ne_zero)) (And.intro (And.intro @imp_self @true_implies) (And.intro @decide_true @decide_false)))) (And.intro (And.intro (And.intro (And.intro @Wi @WQ) (And.intro @UR @VL)) (And.intro (And.intro @List.not_mem_nil.{0} @or_false) (And.intro @V4 @V7))) (And.intro (And.intro (And.intro @Vz @Option.map_none.{0,0}) (And.intro @Xu @Option.isSome_none.{0})) (And.intro (And.intro @WU @U6) (And.intro @true_or @or_true))))))
def iC:=(And.intro (And.intro (And.intro (And.intro @ae.gc @and_true) (And.intro @true_and (And.intro @AV.c.injEq @Value.int.injEq))) (And.intro (And.intro @Value.bool.injEq @XC) (And.intro @WF (And.intro @Nat.succ_ne_self @Nat.one_ne_zero)))) (And.intro (And.intro (And.intro @Nat.succ_ne_zero @not_true_eq_false) (And.intro @not_false_eq_true (And.intro @WP @VE))) (And.intro (And.intro @Vn (And.intro @Wc @VR)) (And.intro @VH (And.intro @decide_true @decide_false)))))
def w5:=And.intro UP (And.intro UN (And.intro (And.intro (And.intro (And.intro (And.intro (And.intro (And.intro (And.intro (And.intro @bb.eq_1 @bb.eq_2) (And.intro @bb.eq_3 @bb.eq_4)) (And.intro (And.intro @ou.eq_1 @kC.eq_1) (And.intro @kC.eq_2 @kC.eq_3))) (And.intro (And.intro (And.intro @nw.eq_1 @ju.eq_1) (And.intro @ju.eq_2 @ju.eq_3)) (And.intro (And.intro @ju.eq_4 @ju.eq_5) (And.intro @r3.eq_1 @r3.eq_2)))) (And.intro (And.intro (And.intro (And.intro @r3.eq_3 @r3.eq_4) (And.intro @r3.eq_5 @ww.eq_1)) (And.intro (And.intro @ww.eq_2 @ww.eq_3) (And.intro @ww.eq_4 @fK.eq_1))) (And.intro (And.intro (And.intro @fK.eq_2 @fK.eq_3) (And.intro @fK.eq_4 @fK.eq_5)) (And.intro (And.intro @fK.eq_6 @fK.eq_7) (And.intro @fK.eq_8 @fK.eq_9))))) (And.intro (And.intro (And.intro (And.intro (And.intro @fK.eq_10 @fK.eq_11) (And.intro @fK.eq_12 @fK.eq_13)) (And.intro (And.intro @fK.eq_14 @fK.eq_15) (And.intro @fK.eq_16 @fK.eq_17))) (And.intro (And.intro (And.intro @fK.eq_18 @fK.eq_19) (And.intro @fK.eq_20 @fK.eq_21)) (And.intro (And.intro @fK.eq_22 @fK.eq_23) (And.intro @fK.eq_24 @fK.eq_25)))) (And.intro (And.intro (And.intro (And.intro @fK.eq_26 @fK.eq_27) (And.intro @fK.eq_28 @So.eq_1)) (And.intro (And.intro @So.eq_2 @PH.eq_1) (And.intro @PH.eq_2 @PH.eq_3))) (And.intro (And.intro (And.intro @PH.eq_4 @PH.eq_5) (And.intro @ko.eq_1 @ko.eq_2)) (And.intro (And.intro @aj.get.eq_1 @aX.eq_1) (And.intro @aX.eq_2 @aj.put.eq_1)))))) (And.intro (And.intro (And.intro (And.intro (And.intro (And.intro @aj.put.eq_2 @pL.eq_1) (And.intro @pL.eq_2 @AG.eq_1)) (And.intro (And.intro @iL.eq_1 @eL.eq_1) (And.intro @ml.eq_1 @tA.eq_1))) (And.intro (And.intro (And.intro @tA.eq_2 @kh.eq_1) (And.intro @kh.eq_2 @ta.eq_1)) (And.intro (And.intro @ta.eq_2 @ta.eq_3) (And.intro @Es.eq_1 @Es.eq_2)))) (And.intro (And.intro (And.intro (And.intro @yv.eq_1 @yv.eq_2) (And.intro @ap.eq_1 @ap.eq_2)) (And.intro (And.intro @ap.eq_3 @t4.eq_1) (And.intro @t4.eq_2 @t4.eq_3))) (And.intro (And.intro (And.intro @t4.eq_4 @t4.eq_5) (And.intro @t4.eq_6 @t4.eq_7)) (And.intro (And.intro @t4.eq_8 @fg.eq_1) (And.intro @fg.eq_2 @dl.eq_1))))) (And.intro (And.intro (And.intro (And.intro (And.intro @dl.eq_2 @dl.eq_3) (And.intro @dl.eq_4 @dl.eq_5)) (And.intro (And.intro @dl.eq_6 @dl.eq_7) (And.intro @bD.eq_1 @bD.eq_2))) (And.intro (And.intro (And.intro @k7.eq_1 @k7.eq_2) (And.intro @Nm @JV)) (And.intro (And.intro @AP.eq_1 @AP.eq_2) (And.intro @wN.eq_1 @wN.eq_2)))) (And.intro (And.intro (And.intro (And.intro @wN.eq_3 @AH.eq_1) (And.intro @AH.eq_2 @AH.eq_3)) (And.intro (And.intro @AH.eq_4 @bO.eq_1) (And.intro @bO.eq_2 @Go.Value.cells.eq_1))) (And.intro (And.intro (And.intro @Go.Value.cells.eq_2 @Go.Value.oneCell'.eq_1) (And.intro @Go.Value.oneCell'.eq_2 @Go.Value.oneCell'.eq_3)) (And.intro (And.intro @b9.eq_1 @b9.eq_2) (And.intro @ci.eq_1 @ci.eq_2))))))) (And.intro (And.intro (And.intro (And.intro (And.intro (And.intro (And.intro @ci.eq_3 @dV.eq_1) (And.intro @dV.eq_2 @gj.eq_1)) (And.intro (And.intro @gj.eq_2 @gj.eq_3) (And.intro @gj.eq_4 @gj.eq_5))) (And.intro (And.intro (And.intro @gj.eq_6 @gj.eq_7) (And.intro @gj.eq_8 @gj.eq_9)) (And.intro (And.intro @gj.eq_10 @f8.eq_1) (And.intro @f8.eq_2 @f8.eq_3)))) (And.intro (And.intro (And.intro (And.intro @f8.eq_4 @f8.eq_5) (And.intro @f8.eq_6 @f8.eq_7)) (And.intro (And.intro @f8.eq_8 @f8.eq_9) (And.intro @f8.eq_10 @gL.eq_1))) (And.intro (And.intro (And.intro @gL.eq_2 @gL.eq_3) (And.intro @gL.eq_4 @gL.eq_5)) (And.intro (And.intro @gL.eq_6 @gL.eq_7) (And.intro @gL.eq_8 @gL.eq_9))))) (And.intro (And.intro (And.intro (And.intro (And.intro @gL.eq_10 @Cz.eq_1) (And.intro @Cz.eq_2 @n4.eq_1)) (And.intro (And.intro @pF.eq_1 @pF.eq_2) (And.intro @qd.eq_1 @qd.eq_2))) (And.intro (And.intro (And.intro @xo.eq_1 @xo.eq_2) (And.intro @Ao.eq_1 @Ao.eq_2)) (And.intro (And.intro @Ao.eq_3 @x9.eq_1) (And.intro @x9.eq_2 @jj.eq_1)))) (And.intro (And.intro (And.intro (And.intro @jj.eq_2 @gA.eq_1) (And.intro @Tb.eq_1 @Tb.eq_2)) (And.intro (And.intro @lO.eq_1 @lO.eq_2) (And.intro @lO.eq_3 @qw.eq_1))) (And.intro (And.intro (And.intro @qw.eq_2 @qy.eq_1) (And.intro @qy.eq_2 @o6.eq_1)) (And.intro (And.intro @o6.eq_2 @o6.eq_3) (And.intro @o6.eq_4 @o6.eq_5)))))) (And.intro (And.intro (And.intro (And.intro (And.intro (And.intro @nu.eq_1 @nu.eq_2) (And.intro @nu.eq_3 @nu.eq_4)) (And.intro (And.intro @iA.eq_1 @iA.eq_2) (And.intro @iD.eq_1 @gN.eq_1))) (And.intro (And.intro (And.intro @gN.eq_2 @gN.eq_3) (And.intro @AV.frz.eq_1 @AV.frz.eq_2)) (And.intro (And.intro @AV.frz.eq_3 @AV.frz.eq_4) (And.intro @AV.frz.eq_5 @AV.frz.eq_6)))) (And.intro (And.intro (And.intro (And.intro @AV.frz.eq_7 @AV.frz.eq_8) (And.intro @AV.frz.eq_9 @AV.frz.eq_10)) (And.intro (And.intro @AV.frzL.eq_1 @AV.frzL.eq_2) (And.intro @fk.eq_1 @fk.eq_2))) (And.intro (And.intro (And.intro @AV.shift.eq_1 @AV.shift.eq_2) (And.intro @AV.shift.eq_3 @AV.shift.eq_4)) (And.intro (And.intro @AV.shift.eq_5 @AV.shift.eq_6) (And.intro @AV.shift.eq_7 @AV.shift.eq_8))))) (And.intro (And.intro (And.intro (And.intro (And.intro @AV.shift.eq_9 @AV.shift.eq_10) (And.intro @AV.shiftL.eq_1 @AV.shiftL.eq_2)) (And.intro (And.intro @rg.eq_1 @jK.eq_1) (And.intro @jK.eq_2 @oK.eq_1))) (And.intro (And.intro (And.intro @oK.eq_2 @mc.eq_1) (And.intro @mc.eq_2 @mc.eq_3)) (And.intro (And.intro @ri.eq_1 @ri.eq_2) (And.intro @rf.eq_1 @rf.eq_2)))) (And.intro (And.intro (And.intro (And.intro @HZ.eq_1 @HZ.eq_2) (And.intro @HZ.eq_3 @Gy.eq_1)) (And.intro (And.intro @Gy.eq_2 @Gy.eq_3) (And.intro @jU.eq_1 @jU.eq_2))) (And.intro (And.intro (And.intro @uQ.eq_1 @bw.eq_1) (And.intro @bw.eq_2 @aB.frz.eq_1)) (And.intro (And.intro @aB.frz.eq_2 @aB.frz.eq_3) (And.intro @aB.frz.eq_4 (And.intro @aB.frz.eq_5 @Pz.eq_1))))))))) (And.intro (And.intro (And.intro (And.intro (And.intro (And.intro (And.intro (And.intro @Pz.eq_2 @Ai.eq_1) (And.intro @Ai.eq_2 @Ai.eq_3)) (And.intro (And.intro @pA.eq_1 @Cb.eq_1) (And.intro @Cb.eq_2 @Cb.eq_3))) (And.intro (And.intro (And.intro @uU.eq_1 @uU.eq_2) (And.intro @r5.eq_1 @r5.eq_2)) (And.intro (And.intro @mM.eq_1 @mM.eq_2) (And.intro @kX.eq_1 @kX.eq_2)))) (And.intro (And.intro (And.intro (And.intro @ru.eq_1 @ru.eq_2) (And.intro @wT.eq_1 @wT.eq_2)) (And.intro (And.intro @wT.eq_3 @lI.eq_1) (And.intro @lI.eq_2 @false_or))) (And.intro (And.intro (And.intro @KG.eq_1 @KG.eq_2) (And.intro @DY.eq_def @qv.eq_def)) (And.intro (And.intro @BB.eq_def @eq_self.{1}) (And.intro @ne_eq.{1} @implies_true.{1}))))) (And.intro (And.intro (And.intro (And.intro (And.intro @implies_true.{0} @forall_const.{1}) (And.intro @forall_const.{0} @S4)) (And.intro (And.intro @Qu @PU) (And.intro @Qp @Ts))) (And.intro (And.intro (And.intro @Tg @PV) (And.intro @TI @Lt)) (And.intro (And.intro @RB @PS) (And.intro @RE @RD)))) (And.intro (And.intro (And.intro (And.intro @Ih @Re) (And.intro @Sh @Qv)) (And.intro (And.intro @Mj @Rv) (And.intro @Ra @RY))) (And.intro (And.intro (And.intro @LL @Q4) (And.intro @Sv @Rg)) (And.intro (And.intro @JQ @Rt) (And.intro @SR @Qb)))))) (And.intro (And.intro (And.intro (And.intro (And.intro (And.intro @Ky @Sl) (And.intro @Sm @Rc)) (And.intro (And.intro @Jn @JU) (And.intro @P3 @RX))) (And.intro (And.intro (And.intro @Rd @Jd) (And.intro @Rh @PY)) (And.intro (And.intro @Qg @KO) (And.intro @SE @QC)))) (And.intro (And.intro (And.intro (And.intro @PX @Kc) (And.intro @S5 @Ri)) (And.intro (And.intro @QL @RF) (And.intro @J0 @SD))) (And.intro (And.intro (And.intro @P1 @SQ) (And.intro @Kt @KJ)) (And.intro (And.intro @RJ @Rs) (And.intro @SH @SK))))) (And.intro (And.intro (And.intro (And.intro (And.intro @SZ @IE) (And.intro @Tm @TB)) (And.intro (And.intro @Ru @Qd) (And.intro @QE @RP))) (And.intro (And.intro (And.intro @QU @QK) (And.intro @Rz @Qt)) (And.intro (And.intro @KQ @Iy) (And.intro @Md @Sr)))) (And.intro (And.intro (And.intro (And.intro @QT @Lg) (And.intro @Qf @R6)) (And.intro (And.intro @Ro @QZ) (And.intro @QA @S2))) (And.intro (And.intro (And.intro @QD @Qy) (And.intro @IM @Ty)) (And.intro (And.intro @P6 @Kq) (And.intro @SL @QQ))))))) (And.intro (And.intro (And.intro (And.intro (And.intro (And.intro (And.intro @SB @SW) (And.intro @Jt @Jq)) (And.intro (And.intro @IT @Ip) (And.intro @R4 @LY))) (And.intro (And.intro (And.intro @Sp @E2) (And.intro @FX @P7)) (And.intro (And.intro @Qm @Rl) (And.intro @Jh @Io)))) (And.intro (And.intro (And.intro (And.intro @QS @SS) (And.intro @RM @Ja)) (And.intro (And.intro @JN @Rf) (And.intro @Sb @R7))) (And.intro (And.intro (And.intro @IX @J8) (And.intro @Hm @F5)) (And.intro (And.intro @Lw @Ns) (And.intro @Ox @Pu))))) (And.intro (And.intro (And.intro (And.intro (And.intro @TE @Uc) (And.intro @JS @NP)) (And.intro (And.intro @Pf @Gw) (And.intro @E5 @E9))) (And.intro (And.intro (And.intro @HU @Uj) (And.intro @G8 @TG)) (And.intro (And.intro @Je @SU) (And.intro @RO @II)))) (And.intro (And.intro (And.intro (And.intro @NQ @P9) (And.intro @SA @RZ)) (And.intro (And.intro @S6 @Rk) (And.intro @S9 @Rp))) (And.intro (And.intro (And.intro @Q3 @H9) (And.intro @I1 @LM)) (And.intro (And.intro @Qi @Nz) (And.intro @Oj @Nu)))))) (And.intro (And.intro (And.intro (And.intro (And.intro (And.intro @F6 @FY) (And.intro @Jg @IW)) (And.intro (And.intro @Rj @Qj) (And.intro @Ob @Rq))) (And.intro (And.intro (And.intro @NE @MA) (And.intro @Oy @MR)) (And.intro (And.intro @Pr @Pc) (And.intro @O3 @Sw)))) (And.intro (And.intro (And.intro (And.intro @MZ @OM) (And.intro @MQ @MW)) (And.intro (And.intro @Pp @Og) (And.intro @N4 @Pn))) (And.intro (And.intro (And.intro @Np @P0) (And.intro @Q2 @Sa)) (And.intro (And.intro @Uf @Km) (And.intro @Q0 @NL))))) (And.intro (And.intro (And.intro (And.intro (And.intro @Fi @Gp) (And.intro @NF @OV)) (And.intro (And.intro @S8 @NB) (And.intro @Q1 @Sc))) (And.intro (And.intro (And.intro @RQ @Oi) (And.intro @NR @Ov)) (And.intro (And.intro @OJ @EW) (And.intro @GY @Nk)))) (And.intro (And.intro (And.intro (And.intro @Mt @OS) (And.intro @Ot @Hj)) (And.intro (And.intro @EY @Gr) (And.intro @Td @GQ))) (And.intro (And.intro (And.intro @Oc @NH) (And.intro @NJ @GM)) (And.intro (And.intro @Ny @My) (And.intro @JF (And.intro @TL @TK)))))))))))
theorem kf{a b:Prop}(x:a)(y:b):a/\b:=⟨x,y⟩
theorem go{a b:Prop}(hb:b)(h:a=b:=by simp -implicitDefEqProofs (maxSteps:=5000000) only[w5,↓reduceIte,reduceCtorEq,Nat.reduceLT,Nat.reduceEqDiff,Nat.reduceAdd,Nat.reduceMul,Nat.reduceSub,Nat.reduceLeDiff,Nat.reduceBEq]<;>exact rfl):a:=Eq.mpr h hb
theorem ge{E a b:Prop}(e:E)(hb:b)(h:E->a=b:=by intro e;simp -implicitDefEqProofs (maxSteps:=5000000) only[w5,↓reduceIte,reduceCtorEq,Nat.reduceLT,Nat.reduceEqDiff,Nat.reduceAdd,Nat.reduceMul,Nat.reduceSub,Nat.reduceLeDiff,Nat.reduceBEq,e]<;>exact rfl):a:=Eq.mpr (h e) hb
theorem gq{a b:Prop}(hb:b)(h:b->a:=by first|with_reducible exact ay (by kernel_rfl)|exact Eq.mpr (by simp -implicitDefEqProofs (maxSteps:=5000000) only[w5,↓reduceIte,reduceCtorEq,Nat.reduceLT,Nat.reduceEqDiff,Nat.reduceAdd,Nat.reduceMul,Nat.reduceSub,Nat.reduceLeDiff,Nat.reduceBEq]<;>exact rfl)):a:=h hb
theorem gf{E a b:Prop}(e:E)(hb:b)(h:E->b->a:=by intro e;first|with_reducible exact ay (by kernel_rfl)|exact Eq.mpr (by simp -implicitDefEqProofs (maxSteps:=5000000) only[w5,↓reduceIte,reduceCtorEq,Nat.reduceLT,Nat.reduceEqDiff,Nat.reduceAdd,Nat.reduceMul,Nat.reduceSub,Nat.reduceLeDiff,Nat.reduceBEq,e]<;>exact rfl)):a:=h e hb
theorem cA{p a b:Prop}(x:a)(y:b)(h:a->b->p:=by intro x y;first|((with_reducible apply al);exact x;exact y)|((with_reducible apply aO);exact x;exact y)|((with_reducible apply cL);exact x;exact .inl (by simp[m8,pi,bD,dl]);exact y)):p:=h x y
theorem ro{p q:Prop}(h:p:=by simp[m8,pi,bD,dl]):p\/q:=.inl h
theorem sp{p a b:Prop}(ha:a)(hb:b)(h:a->b->p:=by with_reducible first|exact kG|exact Cw|exact vl):p:=h ha hb
theorem wC{st:aj}{n nx:Nat}{env:List (Nat×AV)}{tab:ae}(h:st.n=n/\(gu st env/\lz st tab)/\cU nx env/\bX nx tab:=by(first|((simp only[gu,lz,cU,bX,aB.lt,AV.lt,AV.ltL,iC,aj.get,aX,aj.put,↓reduceIte,reduceCtorEq,Nat.reduceLT,Nat.reduceEqDiff,Nat.reduceAdd,Nat.reduceLeDiff,eq_self,implies_true])<;>(repeat' apply And.intro)<;>first|(rw[jx (by omega)];done)|(simp;done)|omega)|fail)):ct st ⟨n,env,tab,nx⟩:=ja h
theorem wE{st:aj}{n nx:Nat}{env:List (Nat×AV)}{tab:ae}{E:Prop}(e:E)(h:E->st.n=n/\(gu st env/\lz st tab)/\cU nx env/\bX nx tab:=by intro e;(first|((simp only[gu,lz,cU,bX,aB.lt,AV.lt,AV.ltL,iC,aj.get,aX,aj.put,↓reduceIte,reduceCtorEq,Nat.reduceLT,Nat.reduceEqDiff,Nat.reduceAdd,Nat.reduceLeDiff,eq_self,implies_true,e])<;>(repeat' apply And.intro)<;>first|(rw[jx (by omega)];done)|(simp;done)|omega)|fail)):ct st ⟨n,env,tab,nx⟩:=ja (h e)
theorem wR{st:aj}{n nx:Nat}{env:List (Nat×AV)}{tab:ae}(ids:List Nat)(h0:ids.Nodup:=by decide)(h:st.n=n/\(gz st ids env/\fV st ids tab)/\cU nx env/\bX nx tab:=by(first|((simp only[gz,fV,cU,bX,aB.lt,AV.lt,AV.ltL,AV.ren,AV.renL,aB.ren,Xo,List.getD_cons_succ,Vl,Wd,iC,aj.get,aX,aj.put,↓reduceIte,reduceCtorEq,Nat.reduceLT,Nat.reduceEqDiff,Nat.reduceAdd,Nat.reduceLeDiff,eq_self,implies_true])<;>(repeat' apply And.intro)<;>first|(rw[jx (by omega)];done)|(simp;done)|omega)|fail)):ct st ⟨n,env,tab,nx⟩:=mu ids ⟨h0,h⟩
theorem wS{st:aj}{n nx:Nat}{env:List (Nat×AV)}{tab:ae}{E:Prop}(ids:List Nat)(e:E)(h0:ids.Nodup:=by decide)(h:E->st.n=n/\(gz st ids env/\fV st ids tab)/\cU nx env/\bX nx tab:=by intro e;(first|((simp only[gz,fV,cU,bX,aB.lt,AV.lt,AV.ltL,AV.ren,AV.renL,aB.ren,Xo,List.getD_cons_succ,Vl,Wd,iC,aj.get,aX,aj.put,↓reduceIte,reduceCtorEq,Nat.reduceLT,Nat.reduceEqDiff,Nat.reduceAdd,Nat.reduceLeDiff,eq_self,implies_true,e])<;>(repeat' apply And.intro)<;>first|(rw[jx (by omega)];done)|(simp;done)|omega)|fail)):ct st ⟨n,env,tab,nx⟩:=mu ids ⟨h0,h e⟩
theorem rI{I:aj->Prop}{μ:aj->Nat}{n:Nat}{st st':aj}(hw:ct st st')(hI:I st')(hm:μ st'<n:=by simp only[ax,iC,aj.get,aX,aj.put,↓reduceIte,reduceCtorEq,Nat.reduceLT,Nat.reduceEqDiff,Nat.reduceAdd,Nat.reduceLeDiff,eq_self,implies_true];omega):w7 I μ n st:=gv hw hI hm
end
section
theorem ca {P : Program} {f : FuncId} {fn : Func} {c : Code} (hf : P.funcs[f]? = some fn) (hb : fn.body = some c) (hname : (fn.name == "runtime.NumGoroutine") = false) : fy P f := fun args w => by
 have : ¬ fn.name = "runtime.NumGoroutine" := by simpa using hname
 simp[callFunc,Sem.run_bind,hf,this,hb]
theorem y4{w:World}{S:Nat->Prop}{v u:Value}(h:RT w S v (.c u)):v=u:=by cases h;rfl
theorem Gb{tab:ae}{a:AV}(h:dl a):gj tab a=a:=by
 cases a<;>first|rfl|exact h.elim
theorem tn{tab:ae}:∀{l:List AV},bD l->l.map (gj tab)=l
 | [],_=>rfl
 | a :: l,h=>by rw[VE,Gb h.1,tn h.2]
theorem mf{tab:ae}:∀{l:List AV},bD l->l.map (gL tab)=l
 | [],_=>rfl
 | a :: l,h=>by
  have h1:gL tab a=a:=by
   have:=h.1;cases a<;>first|rfl|exact this.elim
  rw[VE,h1,mf h.2]
theorem t8{nx:Nat}:∀{l:List AV},bD l->AV.ltL nx l
 | [],_=>trivial
 | a :: l,h=>⟨by
   have:=h.1;cases a<;>first|trivial|exact this.elim,t8 h.2⟩
theorem Ek{u:Option (Nat×List Nat)}{P:Program}{st:aj}{g:FuncId}{args caps:List AV}{dst:Option Nat}{K:aj->Prop}{v:Value}(ht:bD caps)(h:am P g (args.map (gj st.tab) ++ caps) (val v))(hk:K (st.put dst (.c v))):gb u P st g (args ++ caps) (uj dst K):=
 al (by rw[Vc,tn ht];exact h) hk
theorem cL{u:Option (Nat×List Nat)}{P:Program}{st:aj}{g:FuncId}{args:List AV}{K:AV->aj->Prop}{r:AV}(h:am P g (args.map (gj st.tab)) ⟨r,[],0⟩)(ho:m8 args\/r.plain)(hk:K (r.shift st.next) st):gb u P st g args K:=
 pg h (ho.imp id fun h=>⟨h,trivial⟩) hk
theorem dm{α β:Type}(f:α -> β)(l:List α){k:Nat}(h:k<l.length):(l.take (k+1)).map f=(l.take k).map f ++ [f l[k]]:=by
 rw[Xj,p0 h,Vc];rfl
theorem dg{u:Option (Nat×List Nat)}{P:Program}{st:aj}{g:FuncId}{args:List AV}{K:AV->aj->Prop}{e:TypeId}{sz:Nat}{rows:List (List AV)}(h:am P g (args.map (gj st.tab)) (gl e sz rows))(ho:m8 args\/∀row∈rows,∀av∈row,av.plain)(hk:K (.osl st.next) ⟨st.n,st.env,(st.next,some (.row e sz rows)) :: st.tab,st.next+1⟩):gb u P st g args K:=
 pg h (ho.imp id fun h=>⟨trivial,h,trivial⟩) (by
  have e1:(gl e sz rows).r.shift st.next=.osl st.next:=by simp[gl,AV.shift]
  have e2:(gl e sz rows).tab.shift st.next=[(st.next,some (.row e sz rows))]:=by simp[gl,ae.shift,aB.shift]
  rw[e1,e2];exact hk)
theorem bk{l:List Int}:∀row∈l.map (fun n=>[eI n]),∀av∈row,av.plain:=fun row hr av ha=>by
 obtain⟨n,_,rfl⟩:=U3.1 hr;simp at ha;subst ha;trivial
theorem pz{α β:Type}(f:β -> α -> β)(b:β)(l:List α){k:Nat}(h:k<l.length):(l.take (k+1)).foldl f b=f ((l.take k).foldl f b) l[k]:=by
 rw[Xj,p0 h,List.foldl_append];rfl
inductive qI:AV->AV->Prop
 | refl (a:AV):qI a a
 | nil (sz:Nat):qI (.c (.slice none 0 0)) (.sl sz [])
def p9:List AV->List AV->Prop
 | [],[]=>True
 | a :: l,b :: l'=>qI a b/\p9 l l'
 | _,_=>False
def ph:List (List AV)->List (List AV)->Prop
 | [],[]=>True
 | a :: l,b :: l'=>p9 a b/\ph l l'
 | _,_=>False
inductive qp:AV->AV->Prop
 | refl (a:AV):qp a a
 | nil (sz:Nat):qp (.c (.slice none 0 0)) (.sl sz [])
 | rows {sz:Nat} {r r':List (List AV)} (h:ph r r'):qp (.sl sz r) (.sl sz r')
def Az:List AV->List AV->Prop
 | [],[]=>True
 | a :: l,b :: l'=>qp a b/\Az l l'
 | _,_=>False
inductive rX:AV->AV->Prop
 | one {a b:AV} (h:qp a b):rX a b
 | agg {l l':List AV} (h:Az l l'):rX (.agg l) (.agg l')
def pr:List AV->List AV->Prop
 | [],[]=>True
 | a :: l,b :: l'=>rX a b/\pr l l'
 | _,_=>False
theorem qI.rt{w:World}{S:Nat->Prop}{v:Value}{a b:AV}(h:qI a b)(hr:RT w S v a):RT w S v b:=by
 cases h with
 | refl=>exact hr
 | nil sz=>
  rw[y4 hr];exact .sl none 0 0 sz [] 0 0 (fun _ _=>undef) rfl (UU _) (by omega) (fun h=>by omega) (by simp) (fun h=>by omega) (by simp) (by simp)
theorem p9.spec:∀{l l':List AV},p9 l l' -> l.length=l'.length/\∀(j:Nat)(b:AV),l'[j]? = some b->∃a,l[j]? = some a/\qI a b
 | [],[],_=>⟨rfl,fun j b h=>by simp at h⟩
 | a :: l,b :: l',h=>by
  obtain⟨h1,h2⟩:=p9.spec h.2;refine⟨by simp[h1],fun j b' h3=>?_⟩
  cases j with
  | zero=>
   simp at h3;subst h3;exact⟨a,rfl,h.1⟩
  | succ j=>exact h2 j b' (by simpa using h3)
 | [],_ :: _,h=>h.elim
 | _ :: _,[],h=>h.elim
theorem ph.spec:∀{l l':List (List AV)},ph l l' -> l.length=l'.length/\∀(j:Nat)(b:List AV),l'[j]? = some b->∃a,l[j]? = some a/\p9 a b
 | [],[],_=>⟨rfl,fun j b h=>by simp at h⟩
 | a :: l,b :: l',h=>by
  obtain⟨h1,h2⟩:=ph.spec h.2;refine⟨by simp[h1],fun j b' h3=>?_⟩
  cases j with
  | zero=>
   simp at h3;subst h3;exact⟨a,rfl,h.1⟩
  | succ j=>exact h2 j b' (by simpa using h3)
 | [],_ :: _,h=>h.elim
 | _ :: _,[],h=>h.elim
theorem qp.rt{w:World}{S:Nat->Prop}{v:Value}{a b:AV}(h:qp a b)(hr:RT w S v a):RT w S v b:=by
 cases h with
 | refl=>exact hr
 | nil sz=>exact(qI.nil sz).rt hr
 | rows h=>
  rename_i sz r r';obtain⟨hl,hx⟩:=h.spec
  cases hr with
  | sl A n cap sz rows b o U hn hc hm hA hs hcell hone hr=>
   have key:∀i j row' av',r'[i]? = some row' -> row'[j]? = some av' -> ∃row av,r[i]? = some row/\row[j]? = some av/\qI av av':=fun i j row' av' h1 h2=>by
    obtain⟨row,h3,h4⟩:=hx i row' h1;obtain⟨av,h5,h6⟩:=h4.spec.2 j av' h2;exact⟨row,av,h3,h5,h6⟩
   refine .sl A n cap sz r' b o U (hn.trans hl) hc hm hA (fun row' hrow=>?_) (fun h0 i j row' av' h1 h2=>?_) (fun i j row' av' h1 h2=>?_) (fun i j row' av' h1 h2=>?_)
   .obtain ⟨i,hi⟩:=VZ hrow;obtain⟨row,h3,h4⟩:=hx i row' hi;rw[<- h4.spec.1];exact hs row (r2 h3)
   .obtain ⟨row,av,h3,h4,_⟩:=key i j row' av' h1 h2;exact hcell h0 i j row av h3 h4
   .obtain ⟨row,av,h3,h4,_⟩:=key i j row' av' h1 h2;exact hone i j row av h3 h4
   .obtain ⟨row,av,h3,h4,h5⟩:=key i j row' av' h1 h2;exact h5.rt (hr i j row av h3 h4)
theorem Az.spec:∀{l l':List AV},Az l l' -> l.length=l'.length/\∀(j:Nat)(a b:AV),l[j]? = some a->l'[j]? = some b->qp a b
 | [],[],_=>⟨rfl,fun j a b h=>by simp at h⟩
 | a :: l,b :: l',h=>by
  obtain⟨h1,h2⟩:=Az.spec h.2;refine⟨by simp[h1],fun j a' b' h3 h4=>?_⟩
  cases j with
  | zero=>
   simp at h3 h4;subst h3 h4;exact h.1
  | succ j=>exact h2 j a' b' (by simpa using h3) (by simpa using h4)
 | [],_ :: _,h=>h.elim
 | _ :: _,[],h=>h.elim
theorem rX.rt{w:World}{S:Nat->Prop}{v:Value}{a b:AV}(h:rX a b)(hr:RT w S v a):RT w S v b:=by
 cases h with
 | one h=>exact h.rt hr
 | agg h=>
  obtain⟨hl,hx⟩:=h.spec
  cases hr with
  | agg xs cs hn hc=>
   refine .agg xs _ (hn.trans hl) fun j x av h1 h2=>?_;rename_i l l';have hj:j<l'.length:=(US.1 h2).1;obtain⟨a,ha⟩:∃a,l[j]? = some a:=⟨_,p0 (by omega)⟩;exact(hx j a av ha h2).rt (hc j x a h1 ha)
theorem pr.spec:∀{l l':List AV},pr l l' -> l.length=l'.length/\∀(j:Nat)(a b:AV),l[j]? = some a->l'[j]? = some b->rX a b
 | [],[],_=>⟨rfl,fun j a b h=>by simp at h⟩
 | a :: l,b :: l',h=>by
  obtain⟨h1,h2⟩:=pr.spec h.2;refine⟨by simp[h1],fun j a' b' h3 h4=>?_⟩
  cases j with
  | zero=>
   simp at h3 h4;subst h3 h4;exact h.1
  | succ j=>exact h2 j a' b' (by simpa using h3) (by simpa using h4)
 | [],_ :: _,h=>h.elim
 | _ :: _,[],h=>h.elim
theorem am.fits{P:Program}{f:FuncId}{args args':List AV}{R:cu}(h:am P f args' R)(hf:pr args args'):am P f args R:=
 ⟨h.1,fun S w vs h1 h2 h3=>h.2 S w vs h1 (h2.trans hf.spec.1) fun j v av h4 h5=>by
  have hj:j<args'.length:=(US.1 h5).1;obtain⟨a,ha⟩:∃a,args[j]? = some a:=⟨_,p0 (by rw[hf.spec.1];exact hj)⟩;exact(hf.spec.2 j a av ha h5).rt (h3 j v a h4 ha)⟩
theorem lQ{u:Option (Nat×List Nat)}{P:Program}{st:aj}{g:FuncId}{args:List AV}{dst:Option Nat}{K:aj->Prop}{Q:Bool->Prop}(h:dp P g (args.map (gj st.tab)) fun R=>∃b,R=val (.bool b)/\Q b)(hk:∀b,Q b->K (st.put dst (.c (.bool b)))):gb u P st g args (uj dst K):=
 vO h fun R ⟨b,hR,hq⟩=>by subst hR;exact⟨.inr ⟨trivial,trivial⟩,hk b hq⟩
section
variable {P:Program} {w:World} {d:Nat} {xs ys:Array Value} {f:Field} {fs:List Field}
theorem Ia {x y : Value} {b : Bool} {u : TypeDesc} (hn : f.name ≠ "_") (hu : P.underlying f.type = some u) (hs : ∀ fs, u ≠ .struct fs) (ha : ∀ n e, u ≠ .array n e) (hx : xs[f.offset]? = some x) (hy : ys[f.offset]? = some y) (he : (Op.equalIn d f.type x y).run P w = .ok b w) : (Op.eqFields d xs ys (f :: fs)).run P w = if b = true then (Op.eqFields d xs ys fs).run P w else .ok false w := by
 have hp:∀(zs:Array Value)(z:Value),zs[f.offset]? = some z->(part f.type zs f.offset).run P w=.ok z w:=fun zs z hz=>by
  simp only[part,Sem.run_bind,isAgg,run_underlying hu,Result.andThen_ok]
  cases u with
  | struct fs=>exact absurd rfl (hs fs)
  | array n e=>exact absurd rfl (ha n e)
  | _=>simp[hz]
 simp only[Op.eqFields,hn,ne_eq,not_false_eq_true,if_true,Sem.run_bind,hp xs x hx,hp ys y hy,Result.andThen_ok,he];cases b<;>simp
def tF:Value->Value->Option Bool
 | .bool a,.bool b=>some (a == b)
 | .int k a,.int k' b=>if k=k' then some (a == b) else none
 | .string a,.string b=>some (a == b)
 | _,_=>none
def xe(P:Program)(t:TypeId):Value->Bool
 | .bool _=>match P.underlying t with|some .bool=>true|_=>false
 | .int k _=>match P.underlying t with|some (.int _)=>true|_=>false
 | .string _=>match P.underlying t with|some .string=>true|_=>false
 | _=>false
theorem NU{t:TypeId}{x y:Value}{b:Bool}(h:tF x y=some b)(hx:xe P t x=true):(Op.equalIn (d+1) t x y).run P w=.ok b w/\∃u,P.underlying t=some u/\(∀fs,u≠.struct fs)/\∀n e,u≠.array n e:=by
 cases x<;>cases y<;>simp[tF] at h;all_goals(unfold xe at hx;simp only at hx;split at hx)
 all_goals try cases hx
 .rename_i hu;exact⟨by simp[Op.equalIn,run_underlying hu,h],_,hu,by simp,by simp⟩
 .rename_i hu;obtain⟨rfl,rfl⟩:=h;exact⟨by simp[Op.equalIn,run_underlying hu],_,hu,by simp,by simp⟩
 .rename_i hu;exact⟨by simp[Op.equalIn,run_underlying hu,h],_,hu,by simp,by simp⟩
def mF:List (Value×Value)->Option Bool
 | []=>some true
 | (x,y) :: l=>match tF x y,mF l with
  | some b,some c=>some (b && c)
  | _,_=>none
theorem vB : ∀ (fs : List Field) (l : List (Value × Value)) (b : Bool), fs.length = l.length → (∀ (k : Nat) (f : Field) (p : Value × Value), fs[k]? = some f → l[k]? = some p → f.name ≠ "_" ∧ xe P f.type p.1 = true ∧ xs[f.offset]? = some p.1 ∧ ys[f.offset]? = some p.2) → mF l = some b → (Op.eqFields (d + 1) xs ys fs).run P w = .ok b w
 | [],[],b,_,_,h=>by
  cases h;simp[Op.eqFields]
 | f :: fs,(x,y) :: l,b,hl,hf,h=>by
  unfold mF at h;split at h
  .rename_i b1 b2 h1 h2;cases h;obtain⟨h3,h4,h5,h6⟩:=hf 0 f (x,y) rfl rfl;obtain⟨h7,u,hu,h8,h9⟩:=NU (P:=P) (w:=w) (d:=d) h1 h4;rw[Ia h3 hu h8 h9 h5 h6 h7,vB fs l b2 (by simpa using hl) (fun k f p hk hp=>hf (k+1) f p (by simpa using hk) (by simpa using hp)) h2];cases b1<;>simp
  .cases h
theorem vz{t:TypeId}{op:BinOp}(l:List (Value×Value)){b:Bool}(ht:P.underlying t=some (.struct (P.fieldsOf t)))(hs:P.stoodInHeld t=false)(hg:P.eqGuardType P.depth t=false)(hl:(P.fieldsOf t).toList.length=l.length)
  (hf : ∀ (k : Nat) (f : Field) (p : Value × Value), (P.fieldsOf t).toList[k]? = some f → l[k]? = some p → f.name ≠ "_" ∧ xe P f.type p.1 = true ∧ xs[f.offset]? = some p.1 ∧ ys[f.offset]? = some p.2) (h : mF l = some b) (hop : op = .eql ∨ op = .neq) : tU P op t (.agg xs) (.agg ys) (.bool (if op matches .eql then b else !b)) := fun w x y => by
 have he:∀w,(Op.equalIn 10000 t (.agg xs) (.agg ys)).run P w=.ok b w:=fun w=>by
  rw[run_equalIn_agg w 9999 t xs ys ht hs];exact vB (P:=P) (d:=9998) _ l b hl hf h
 rcases hop with rfl|rfl
 .simp only[Sem.run_bind,run_eqGuard_agg w _ t x y xs ys hg,Result.andThen_ok,run_eql_struct,he];rfl
 .simp only[Sem.run_bind,run_eqGuard_agg w _ t x y xs ys hg,Result.andThen_ok,run_neq_struct,he];rfl
end
end
section
theorem yS(x:Int):bits .and .i64 x 1=x % 2:=by
 show IntKind.i64.wrap ((BitVec.ofInt 64 x &&& BitVec.ofInt 64 1).toNat:Int)=_
 have h:(BitVec.ofInt 64 x &&& BitVec.ofInt 64 1).toNat=(x % 2).toNat:=by
  rw[BitVec.toNat_and,show(BitVec.ofInt 64 1).toNat=1 from rfl,Nat.and_one_is_mod,BitVec.toNat_ofInt];omega
 rw[h]
 have:IntKind.i64.wrap (((x % 2).toNat:Nat):Int)=((x % 2).toNat:Int):=by
  simp[IntKind.wrap,IntKind.bits,IntKind.signed];omega
 rw[this];omega
structure aw where
 op:Int
 la:Int
 ln:Int
 ra:Int
 rn:Int
 n:Int
 u:Int
structure St where
 vals:List Int
 opn:Int
 don:Int
 did:List Int
 cnt:List Int
def aQ(s i:Int):Bool:=decide (0<=i) && decide (i<31) && (s / 2 ^ i.toNat % 2 == 1)
def Ta(op c:Int):Bool:=
 if op=3 then decide (c<0) else if op=4 then decide (c<=0) else if op=5 then decide (0<c) else if op=6 then decide (0<=c) else if op=7 then c == 0 else if op=8 then c != 0 else false
def n8(a b:Int):Int:=if a<b then -1 else if b<a then 1 else 0
def fT(vals:List Int)(a n:Int):Option Int:=if a = -1 then some n else if a<0 then none else vals[a.toNat]?
def be(op:Int):Int:=
 if 1<=op/\op<=14 then 0 else if op=15\/(19<=op/\op<=24) then 1 else if (16<=op/\op<=18)\/op=25\/op=26 then 2 else -1
def iY(d:Nat)(op:Int):Option Nat:=
 if be op=0 then some (d+1) else if be op=1/\1<=d then some d else if be op=2/\2<=d then some (d-1) else none
def dt:List Int->Nat->Option Nat
 | [],d=>some d
 | op :: l,d=>match iY d op with
  | some d'=>dt l d'
  | none=>none
def bF(l:List Int):Int:=if l.length=0 then 12 else if 64<l.length then 3 else if dt l 0=some 1 then 0 else 17
def cD(cm:aw->Option Int)(opn don:Int)(x:aw)(r:List Bool):Option (List Bool):=
 if x.op=1\/x.op=2 then some ((x.op == 1) :: r)
 else if 3<=x.op/\x.op<=8 then
  match cm x with
  | some c=>some (Ta x.op c :: r)
  | none=>none
 else if x.op=9 then some (aQ opn x.n :: r)
 else if x.op=10 then some (aQ don x.n :: r)
 else if x.op=15 then
  match r with
  | a :: r=>some ((!a) :: r)
  | []=>none
 else if 16<=x.op/\x.op<=18 then
  match r with
  | b :: a :: r=>some ((if x.op=16 then a && b else if x.op=17 then a || b else !a || b) :: r)
  | _=>none
 else none
def cO(cm:aw->Option Int)(opn don:Int):List aw->List Bool->Option (List Bool)
 | [],r=>some r
 | x :: l,r=>match cD cm opn don x r with
  | some r'=>cO cm opn don l r'
  | none=>none
def gY(cm:aw->Option Int)(opn don:Int)(l:List aw):Option Bool:=
 if bF (l.map aw.op)≠0 then none else
  match cO cm opn don l [] with
  | some (b :: _)=>some b
  | _=>none
def p7(vals:List Int)(x:aw):Option Int:=match fT vals x.la x.ln,fT vals x.ra x.rn with
 | some a,some b=>some (n8 a b)
 | _,_=>none
def dS(l:List aw)(s:St):Option Bool:=gY (p7 s.vals) s.opn s.don l
def n6(o:Option Bool):Bool:=o.getD false
def zr(o:Option Bool):Int:=if o.isSome then 0 else 17
end
section
open Go.RowKit Go.ChangeShapes Go.WideShapes Go.Deep
structure io(α:Type) where
 size:Nat
 at_:World->(Nat->Prop)->List Value -> α -> Prop
 len:∀{w:World} {S:Nat->Prop} {cs:List Value} {a:α},at_ w S cs a->cs.length=size
 keep:∀{w w':World} {S:Nat->Prop} {cs:List Value} {a:α},at_ w S cs a->(∀p:Addr,S p.block->w'.cell? p=w.cell? p)->at_ w' S cs a
 mono:∀{w:World} {S S':Nat->Prop} {cs:List Value} {a:α},at_ w S cs a->(∀b,S b->S' b)->at_ w S' cs a
def io.one{α:Type}(r:io α)(w:World)(S:Nat->Prop)(v:Value)(a:α):Prop:=r.at_ w S [v] a
def eW(k:IntKind):io Int where
 size:=1
 at_:=fun _ _ cs n=>cs=[.int k n]/\(Lit.int k n).wf=true
 len:=fun h=>by rw[h.1];rfl
 keep:=fun h _=>h
 mono:=fun h _=>h
def EF:io Bool where
 size:=1
 at_:=fun _ _ cs b=>cs=[.bool b]
 len:=fun h=>by rw[h];rfl
 keep:=fun h _=>h
 mono:=fun h _=>h
def qV:io ByteArray where
 size:=1
 at_:=fun _ _ cs s=>cs=[.string s]/\s.size<=9223372036854775807
 len:=fun h=>by rw[h.1];rfl
 keep:=fun h _=>h
 mono:=fun h _=>h
def vD{α:Type}(r:io α)(w:World)(S:Nat->Prop)(b o:Nat)(l:List α):Prop:=
 ∀i (h:i<l.length),∃cs,(∀j u,cs[j]? = some u->w.cell? ⟨b,o+i * r.size+j,none⟩=some u)/\r.at_ w S cs l[i]
theorem B9{α:Type}{r:io α}{w w':World}{S:Nat->Prop}{b o:Nat}{l:List α}(h:vD r w S b o l)(hb:S b)(hk:∀p:Addr,S p.block->w'.cell? p=w.cell? p):vD r w' S b o l:=by
 intro i hi;obtain⟨cs,h1,h2⟩:=h i hi;exact⟨cs,fun j u hu=>(hk _ hb).trans (h1 j u hu),r.keep h2 hk⟩
theorem Cf{α:Type}{r:io α}{w:World}{S S':Nat->Prop}{b o:Nat}{l:List α}(h:vD r w S b o l)(hB:∀b,S b->S' b):vD r w S' b o l:=by
 intro i hi;obtain⟨cs,h1,h2⟩:=h i hi;exact⟨cs,h1,r.mono h2 hB⟩
def aP{α:Type}(r:io α):io (List α) where
 size:=1
 at_:=fun w S cs l=>∃A c,cs=[.slice A l.length c]/\l.length<=c/\c<=9223372036854775807/\(0<l.length->∃b o,A=some ⟨b,o,none⟩/\S b/\vD r w S b o l)
 len:=fun⟨A,c,h,_⟩=>by rw[h];rfl
 keep:=fun⟨A,c,h1,h2,h3,h4⟩ hk=>⟨A,c,h1,h2,h3,fun hl=>by
  obtain⟨b,o,e,hb,hr⟩:=h4 hl;exact⟨b,o,e,hb,B9 hr hb hk⟩⟩
 mono:=fun⟨A,c,h1,h2,h3,h4⟩ hB=>⟨A,c,h1,h2,h3,fun hl=>by
  obtain⟨b,o,e,hb,hr⟩:=h4 hl;exact⟨b,o,e,hB b hb,Cf hr hB⟩⟩
def cq{α β:Type}(r:io α)(s:io β):io (α × β) where
 size:=r.size+s.size
 at_:=fun w S cs x=>∃c1 c2,cs=c1 ++ c2/\r.at_ w S c1 x.1/\s.at_ w S c2 x.2
 len:=fun⟨c1,c2,h,h1,h2⟩=>by rw[h,UW,r.len h1,s.len h2]
 keep:=fun⟨c1,c2,h,h1,h2⟩ hk=>⟨c1,c2,h,r.keep h1 hk,s.keep h2 hk⟩
 mono:=fun⟨c1,c2,h,h1,h2⟩ hB=>⟨c1,c2,h,r.mono h1 hB,s.mono h2 hB⟩
def rV:io Unit where
 size:=0
 at_:=fun _ _ cs _=>cs=[]
 len:=fun h=>by rw[h];rfl
 keep:=fun h _=>h
 mono:=fun h _=>h
theorem io.below{α:Type}{r:io α}{w w':World}{S:Nat->Prop}{B':Nat}{cs:List Value}{a:α}(h:r.at_ w S cs a)(hb:Below B' w w')(hB:∀b,S b->b<B'):r.at_ w' S cs a:=
 r.keep h fun p hp=>hb.cell (hB _ hp)
theorem io.one_below{α:Type}{r:io α}{w w':World}{S:Nat->Prop}{B':Nat}{v:Value}{a:α}(h:r.one w S v a)(hb:Below B' w w')(hB:∀b,S b->b<B'):r.one w' S v a:=io.below (r:=r) h hb hB
theorem eC{n:Int}(h:(Lit.int .i64 n).wf=true):-9223372036854775808<=n/\n<=9223372036854775807:=by
 simpa[Lit.wf,IntKind.min,IntKind.max,IntKind.signed,IntKind.bits] using h
theorem vj{n:Int}(h1:-9223372036854775808<=n)(h2:n<=9223372036854775807):(Lit.int .i64 n).wf=true:=by
 simp[Lit.wf,IntKind.min,IntKind.max,IntKind.signed,IntKind.bits];omega
section
variable {α:Type} {r:io α} {w w':World} {S:Nat->Prop} {v:Value} {l:List α}
theorem dR(h:(aP r).one w S v l):∃A c,v=.slice A l.length c/\l.length<=c/\c<=9223372036854775807:=by
 obtain⟨A,c,h1,h2,h3,_⟩:=h;exact⟨A,c,by simpa using h1,h2,h3⟩
theorem dT{A:Option Addr}{n c:Nat}(h:(aP r).one w S (.slice A n c) l)(hn:0<l.length):∃b o,A=some ⟨b,o,none⟩/\S b/\vD r w S b o l:=by
 obtain⟨A',c',h1,_,_,h4⟩:=h;simp at h1;obtain⟨rfl,_,_⟩:=h1;exact h4 hn
theorem GA(hs:r.size=1){b o c:Nat}{n:Nat}(h:(aP r).one w S (.slice (some ⟨b,o,none⟩) n c) l){k:Nat}(hk:k<l.length):∃u,w.cell? ⟨b,o+k,none⟩=some u/\r.at_ w S [u] l[k]:=by
 obtain⟨b',o',e,_,hr⟩:=dT h (by omega);simp at e;obtain⟨rfl,rfl⟩:=e;obtain⟨cs,h1,h2⟩:=hr k hk;have hl:=r.len h2;rw[hs] at hl h1
 match cs,hl with
 | [u],_=>exact⟨u,by simpa using h1 0 u rfl,h2⟩
theorem Ga(w:World)(S:Nat->Prop)(r:io α):(aP r).one w S (.slice none 0 0) []:=⟨none,0,rfl,UU _,by omega,fun h=>absurd h (by simp)⟩
theorem uC{base:Nat}{e:TypeId}{size n:Nat}{xs:List Value}(h:w.ownsRow base e size v n xs)(hs:r.size=size)(hn:n=l.length)(hx:∀i (hi:i<l.length),r.at_ w (fun b=>base<=b/\b<w.heap.size) ((xs.drop (i * size)).take size) l[i]) :
  (aP r).one w (fun b=>base<=b/\b<w.heap.size) v l:=by
 subst hn;rcases h.2 with ⟨rfl,h0⟩|⟨g,cap,cur,rfl,hb,hg,hc,hm,hcs,ht⟩
 .refine ⟨none,0,by rw[h0],by omega,by omega,fun hl=>by omega⟩
 .refine ⟨some ⟨g,0,none⟩,cap,rfl,hc,by simpa[maxLen] using hm,fun hl=>⟨g,0,rfl,⟨hb,(Vm.1 hg).1⟩,fun i hi=>⟨_,fun j u hu=>?_,hx i hi⟩⟩⟩
  have hj:j<size:=by
   have:=(US.1 hu).1;simp at this;omega
  rw[VM,UZ hj,VJ] at hu;have:=h.cells (g:=g) rfl _ u hu;rw[ig] at this;rw[hs,We];exact this
theorem BL{base:Nat}{e:TypeId}{n:Nat}(f:α -> Value)(h:w.ownsRow base e 1 v n (l.map f))(hs:r.size=1)(hx:∀a∈l,r.at_ w (fun b=>base<=b/\b<w.heap.size) [f a] a):(aP r).one w (fun b=>base<=b/\b<w.heap.size) v l:=by
 have hn:n=l.length:=by have:=h.1;simp at this;omega
 refine uC h hs hn fun i hi=>?_
 have e:(((l.map f).drop (i * 1)).take 1)=[f l[i]]:=by
  rw[Nat.mul_one,Xe (by simpa using hi)];simp
 rw[e];exact hx _ (UQ hi)
theorem bV(h:(aP r).one w S v l){B':Nat}(hb:Below B' w w')(hB:∀b,S b->b<B'):(aP r).one w' S v l:=io.one_below h hb hB
theorem jw(h:(aP r).one w S v l){S':Nat->Prop}(hB:∀b,S b->S' b):(aP r).one w S' v l:=io.mono (aP r) h hB
theorem nS(h:(aP r).one w S v l)(hk:∀p:Addr,S p.block->w'.cell? p=w.cell? p):(aP r).one w' S v l:=io.keep (aP r) h hk
end
theorem EJ{w:World}{S:Nat->Prop}{b o c n:Nat}{l:List Int}(h:(aP (eW .i64)).one w S (.slice (some ⟨b,o,none⟩) n c) l){k:Nat}(hk:k<l.length) :
  w.cell? ⟨b,o+k,none⟩=some (.int .i64 l[k]) /\ -9223372036854775808<=l[k]/\l[k]<=9223372036854775807:=by
 obtain⟨u,h1,h2⟩:=GA (r:=eW .i64) rfl h hk;obtain⟨h2,h3⟩:=h2;simp at h2;subst h2;exact⟨h1,eC h3⟩
theorem Bl{α:Type}{p:Nat -> α -> Prop}:∀{n:Nat},(∀i,i<n->∃y,p i y)->∃l:List α,l.length=n/\∀i (h:i<l.length),p i l[i]:=by
 intro n
 induction n with
 | zero=>intro _;exact⟨[],rfl,fun i h=>absurd h (by simp)⟩
 | succ n ih=>
  intro h;obtain⟨l,h1,h2⟩:=ih fun i hi=>h i (by omega);obtain⟨y,hy⟩:=h n (by omega);refine⟨l ++ [y],by simp[h1],fun i hi=>?_⟩;by_cases hin:i<l.length
  .rw [WC hin];exact h2 i hin
  .have:i=l.length:=by simp at hi;omega
   subst this;rw[Xf (by omega)];simpa[h1] using hy
def dU{α:Type}(P:Program)(t:TypeId)(r:io α):Prop:=∀(H:Type)(enc:TypeId×Value->H)(w:World)(fuel:Nat)(cs:List Value)(x:DataW H×List MemPlace),
 DataW.trod enc P w 0 (fun _=>true) true fuel t cs=some x->∃a,r.at_ w (fun b=>b<w.heap.size) cs a
section
variable {P:Program}
theorem vq{t:TypeId}{k:IntKind}(h:P.underlying t=some (.int k)):dU P t (eW k):=by
 intro H enc w fuel cs x hx;obtain⟨n,rfl,_,hw⟩:=DataW.trod_int h hx;exact⟨n,rfl,hw⟩
theorem BM{t:TypeId}(h:P.underlying t=some .bool):dU P t EF:=by
 intro H enc w fuel cs x hx;obtain⟨b,rfl,_⟩:=DataW.trod_bool h hx;exact⟨b,rfl⟩
theorem cp{α:Type}{t e:TypeId}{r:io α}(ht:P.underlying t=some (.slice e))(hs:P.cellsOf e=r.size)(hp:0<r.size)(ho:dU P e r):dU P t (aP r):=by
 intro H enc w fuel cs x hx;rcases Go.Deep.open_slice ht hx with ⟨rfl,_⟩|⟨a,len,cap,m,n,D,Pl,rfl,_,hl,hm,hmm,_,hi⟩
 .exact ⟨[],Ga _ _ _⟩
 .simp only[if_true] at hmm;subst hmm
  obtain⟨l,hll,hl2⟩:=Bl (n:=len) (p:=fun i y=>∃cs',w.cells? 0 (a.add (i * P.cellsOf e)) (P.cellsOf e)=some cs' /\ r.at_ w (fun b=>b<w.heap.size) cs' y) (fun i hil=>by
   obtain⟨cs',h1,h2⟩:=hi i (by omega);obtain⟨y,hy⟩:=ho H enc w n cs' _ h2;exact⟨y,cs',h1,hy⟩)
  subst hll;refine⟨l,some a,_,rfl,hl,by simpa[maxLen] using hm,fun h0=>?_⟩;obtain⟨cs0,h1,h2⟩:=hl2 0 h0;obtain⟨_,hlen,hc⟩:=World.cells?_some h1;have hc0:=hc 0 (by omega);have hlt:0<cs0.length:=by rw[hlen];omega
  rw[p0 hlt] at hc0;have e0:(a.add (0 * P.cellsOf e)).add 0=a:=by simp[Addr.add]
  rw[e0] at hc0;have hb:=World.block_lt_of_cell? w a hc0
  have hsp:a.spot=none:=by
   unfold World.cell? at hc0;split at hc0
   .split at hc0
    .cases hc0
    .rename_i h5;simpa using h5
   .cases hc0
  obtain⟨b,o,sp⟩:=a;simp only at hsp hb;subst hsp;refine⟨b,o,rfl,hb,fun i hi'=>?_⟩;obtain⟨cs',h1,h2⟩:=hl2 i hi';refine⟨cs',fun j u hu=>?_,h2⟩;obtain⟨_,hlen',hc'⟩:=World.cells?_some h1
  have hj:j<P.cellsOf e:=by
   have:=(US.1 hu).1;omega
  have:=hc' j hj;rw[hu,Go.Deep.add_add,hs] at this;rw[<- this]
  congr 1
  unfold Addr.add;split
  .rename_i h6;simp_all
  .simp [Ww]
end
end
section
def aA(n:Int):Prop:=-9223372036854775808<=n/\n<=9223372036854775807
def aw.cells(x:aw):List Value:=[.int .i64 x.op,.int .i64 x.la,.int .i64 x.ln,.int .i64 x.ra,.int .i64 x.rn,.int .i64 x.n,.int .i64 x.u]
def aw.ok(x:aw):Prop:=aA x.op/\aA x.la/\aA x.ln/\aA x.ra/\aA x.rn/\aA x.n/\aA x.u
def gJ:io aw where
 size:=7
 at_:=fun _ _ cs x=>cs=x.cells/\x.ok
 len:=fun h=>by rw[h.1];rfl
 keep:=fun h _=>h
 mono:=fun h _=>h
structure fa where
 op:Int
 ln:ByteArray
 lv:Int
 rn:ByteArray
 rv:Int
 name:ByteArray
 user:ByteArray
 line:Int
 col:Int
def fa.cells(x:fa):List Value:=[.int .i64 x.op,.string x.ln,.int .i64 x.lv,.string x.rn,.int .i64 x.rv,.string x.name,.string x.user,.int .i64 x.line,.int .i64 x.col]
def fa.ok(x:fa):Prop:=aA x.op/\aA x.lv/\aA x.rv/\aA x.line/\aA x.col/\x.ln.size<=9223372036854775807/\x.rn.size<=9223372036854775807/\x.name.size<=9223372036854775807/\x.user.size<=9223372036854775807
def t0:io fa where
 size:=9
 at_:=fun _ _ cs x=>cs=x.cells/\x.ok
 len:=fun h=>by rw[h.1];rfl
 keep:=fun h _=>h
 mono:=fun h _=>h
theorem zV{α:Type}{r:io α}{cells:α -> List Value}{ok:α -> Prop}(hr:∀w S cs x,r.at_ w S cs x->cs=cells x/\ok x){w:World}{S:Nat->Prop}{b o c n:Nat}{l:List α}(h:(aP r).one w S (.slice (some ⟨b,o,none⟩) n c) l){k:Nat}(hk:k<l.length) :
  (∀j u,(cells l[k])[j]? = some u->w.cell? ⟨b,o+k * r.size+j,none⟩=some u)/\ok l[k]:=by
 obtain⟨b',o',e,_,hrow⟩:=dT h (by omega);simp at e;obtain⟨rfl,rfl⟩:=e;obtain⟨cs,h1,h2⟩:=hrow k hk;obtain⟨rfl,h3⟩:=hr _ _ _ _ h2;exact⟨h1,h3⟩
theorem tm{w:World}{S:Nat->Prop}{b o c n:Nat}{l:List aw}(h:(aP gJ).one w S (.slice (some ⟨b,o,none⟩) n c) l){k:Nat}(hk:k<l.length) :
  (∀j u,(l[k].cells)[j]? = some u->w.cell? ⟨b,o+k * 7+j,none⟩=some u)/\l[k].ok:=zV (r:=gJ) (cells:=aw.cells) (ok:=aw.ok) (fun _ _ _ _ h=>h) h hk
theorem KU{w:World}{S:Nat->Prop}{b o c n:Nat}{l:List fa}(h:(aP t0).one w S (.slice (some ⟨b,o,none⟩) n c) l){k:Nat}(hk:k<l.length) :
  (∀j u,(l[k].cells)[j]? = some u->w.cell? ⟨b,o+k * 9+j,none⟩=some u)/\l[k].ok:=zV (r:=t0) (cells:=fa.cells) (ok:=fa.ok) (fun _ _ _ _ h=>h) h hk
theorem sJ{α:Type}{r:io α}(cells:α -> List Value){l:List α}{w:World}{v:Value}{base:Nat}{e:TypeId}{n:Nat}(hx:∀x∈l,r.at_ w (fun b=>base<=b/\b<w.heap.size) (cells x) x)(h:w.ownsRow base e r.size v n (l.flatMap cells))(h0:0<r.size) :
  (aP r).one w (fun b=>base<=b/\b<w.heap.size) v l:=by
 have hlen:∀x∈l,(cells x).length=r.size:=fun x hx'=>r.len (hx x hx')
 have key:∀(l:List α),(∀x∈l,(cells x).length=r.size)->(l.flatMap cells).length=l.length * r.size/\∀i (hi:i<l.length),((l.flatMap cells).drop (i * r.size)).take r.size=cells l[i]:=by
  intro l
  induction l with
  | nil=>intro _;exact⟨by simp,fun i hi=>by simp at hi⟩
  | cons a l ih=>
   intro hl;obtain⟨h1,h2⟩:=ih (fun x hx=>hl x (by simp[hx]));have ha:=hl a (by simp);refine⟨by rw[V4,UW,h1,ha,Vl,Xk];omega,fun i hi=>?_⟩;rw[V4]
   cases i with
   | zero=>rw[W5,List.drop_zero,<- ha,List.take_left];rfl
   | succ i=>
    rw[Xk,Nat.add_comm,<- ha,List.drop_append,ha,WG (by omega),VR,show r.size+i * r.size-r.size=i * r.size by omega];exact h2 i (by simpa using hi)
 obtain⟨h1,h2⟩:=key l hlen
 have hn:n=l.length:=by
  have:=h.1;rw[h1] at this;exact(Nat.eq_of_mul_eq_mul_right h0 this).symm
 exact uC h rfl hn fun i hi=>by rw[h2 i hi];exact hx _ (UQ hi)
end
section
open Go.RowKit Go.ChangeShapes Go.WideShapes Go.Deep
def wm{α:Type}(P:Program)(fs:List Field)(off:Nat)(r:io α):Prop:=∀(H:Type)(enc:TypeId×Value->H)(w:World)(fuel:Nat)(cs:List Value),
 off+r.size<=cs.length->(∀(i:Nat)(f:Field),fs[i]? = some f->∃x,DataW.trod enc P w 0 (fun _=>true) true fuel f.type ((cs.drop f.offset).take (P.cellsOf f.type))=some x) ->
 ∃a,r.at_ w (fun b=>b<w.heap.size) ((cs.drop off).take r.size) a
theorem dM(P:Program)(off:Nat):wm P [] off rV:=fun _ _ _ _ _ _ _=>⟨(),by simp[rV]⟩
theorem aI{α β:Type}{P:Program}{f:Field}{fs:List Field}{off:Nat}{r:io α}{s:io β}(ho:f.offset=off)(hc:P.cellsOf f.type=r.size)(h1:dU P f.type r)(h2:wm P fs (off+r.size) s):wm P (f :: fs) off (cq r s):=by
 intro H enc w fuel cs hl hf;have hlr:off+(r.size+s.size)<=cs.length:=hl;obtain⟨x,hx⟩:=hf 0 f rfl;obtain⟨a,ha⟩:=h1 H enc w fuel _ _ hx;obtain⟨b,hb⟩:=h2 H enc w fuel cs (by omega) (fun i g hg=>hf (i+1) g (by simpa using hg));refine⟨(a,b),_,_,?_,ha,hb⟩;rw[ho,hc];show List.take (r.size+s.size) (cs.drop off)=_;rw[List.take_add,List.drop_drop]
theorem cG{α:Type}{P:Program}{t:TypeId}{fs:Array Field}{r:io α}(ht:P.underlying t=some (.struct fs))(hc:P.cellsOf t=r.size)(ho:wm P fs.toList 0 r):dU P t r:=by
 intro H enc w fuel cs x hx;obtain⟨xs,n,_,_,hl,hlen,hf⟩:=DataW.trod_struct ht hx
 obtain⟨a,ha⟩:=ho H enc w n cs (by omega) (fun i f hfi=>by
  have hfi':fs[i]? = some f:=by simpa using hfi
  have h1:=hf i f hfi';have hi:i<xs.length:=by rw[hlen];exact(Vm.1 hfi').1
  exact⟨xs[i],by rw[h1,p0 hi]⟩)
 refine⟨a,?_⟩
 rwa [List.drop_zero,Vg (by omega)] at ha
theorem xS{P:Program}{t:TypeId}(h:P.underlying t=some .string):dU P t qV:=by
 intro H enc w fuel cs x hx;obtain⟨s,rfl,_,hs⟩:=DataW.trod_string h hx;exact⟨s,rfl,by simpa[maxLen] using hs⟩
theorem gU{α β:Type}{P:Program}{t:TypeId}{r:io α}{s:io β}(h:dU P t r)(f:α -> β)(hf:∀w S cs a,r.at_ w S cs a->s.at_ w S cs (f a)):dU P t s:=by
 intro H enc w fuel cs x hx;obtain⟨a,ha⟩:=h H enc w fuel cs x hx;exact⟨f a,hf _ _ _ _ ha⟩
theorem um{P:Program}{W:World}{r:Reach}{b:Nat}{t:TypeId}{fs:Array Field}{v:Value}(ht:P.underlying t=some (.struct fs))(h:Value.okWide P W r b t v):∃cs,v=.agg cs/\cs.size=P.cellsOf t:=by
 simp only[Value.okWide,ht] at h;obtain⟨cs,h1,h2,_⟩:=h;exact⟨cs,h1,h2⟩
theorem aW{α β:Type}{r:io α}{s:io β}{w:World}{S:Nat->Prop}{cs:List Value}{p:α × β}(h:(cq r s).at_ w S cs p):∃c1 c2,cs=c1 ++ c2/\r.at_ w S c1 p.1/\s.at_ w S c2 p.2:=h
theorem fG{α:Type}{r:io α}{w:World}{S:Nat->Prop}{cs:List Value}{a:α}(hr:r.size=1)(h:r.at_ w S cs a):∃v,cs=[v]/\r.one w S v a:=by
 have:=r.len h;rw[hr] at this
 match cs,this with
 | [v],_=>exact⟨v,rfl,h⟩
end
section
structure Gd where
 stage:Int
 event:Int
 cond:List aw
structure Ml where
 name:ByteArray
 stage:Int
 event:Int
 cond:List aw
 final:Bool
structure Ev where
 name:ByteArray
 role:Int
 stage:Int
 sets:List Int
 times:Int
structure aJ where
 attrs:List ByteArray
 inits:List Int
 users:List ByteArray
 roles:List (ByteArray×Int)
 stages:List (ByteArray×Int)
 events:List Ev
 guards:List Gd
 miles:List Ml
 sods:List (Int×Int)
 order:List (Bool×Int)
def Kp(s:ByteArray):Prop:=s.size<=9223372036854775807
def fO:io (ByteArray×Int) where
 size:=2
 at_:=fun _ _ cs x=>cs=[.string x.1,.int .i64 x.2]/\Kp x.1/\aA x.2
 len:=fun h=>by rw[h.1];rfl
 keep:=fun h _=>h
 mono:=fun h _=>h
def o8:io (Int×Int) where
 size:=2
 at_:=fun _ _ cs x=>cs=[.int .i64 x.1,.int .i64 x.2]/\aA x.1/\aA x.2
 len:=fun h=>by rw[h.1];rfl
 keep:=fun h _=>h
 mono:=fun h _=>h
def oM:io (Bool×Int) where
 size:=2
 at_:=fun _ _ cs x=>cs=[.bool x.1,.int .i64 x.2]/\aA x.2
 len:=fun h=>by rw[h.1];rfl
 keep:=fun h _=>h
 mono:=fun h _=>h
def Tw:io Gd where
 size:=3
 at_:=fun w S cs g=>∃cv,cs=[.int .i64 g.stage,.int .i64 g.event,cv]/\(aP gJ).one w S cv g.cond/\aA g.stage/\aA g.event
 len:=fun⟨_,h,_⟩=>by rw[h];rfl
 keep:=fun⟨cv,h,h2,h3⟩ hk=>⟨cv,h,nS h2 hk,h3⟩
 mono:=fun⟨cv,h,h2,h3⟩ hB=>⟨cv,h,jw h2 hB,h3⟩
def Tp:io Ml where
 size:=5
 at_:=fun w S cs g=>∃cv,cs=[.string g.name,.int .i64 g.stage,.int .i64 g.event,cv,.bool g.final]/\(aP gJ).one w S cv g.cond/\aA g.stage/\aA g.event/\Kp g.name
 len:=fun⟨_,h,_⟩=>by rw[h];rfl
 keep:=fun⟨cv,h,h2,h3⟩ hk=>⟨cv,h,nS h2 hk,h3⟩
 mono:=fun⟨cv,h,h2,h3⟩ hB=>⟨cv,h,jw h2 hB,h3⟩
def TN:io Ev where
 size:=5
 at_:=fun w S cs g=>∃cv,cs=[.string g.name,.int .i64 g.role,.int .i64 g.stage,cv,.int .i64 g.times]/\(aP (eW .i64)).one w S cv g.sets/\aA g.role/\aA g.stage/\aA g.times/\Kp g.name
 len:=fun⟨_,h,_⟩=>by rw[h];rfl
 keep:=fun⟨cv,h,h2,h3⟩ hk=>⟨cv,h,nS h2 hk,h3⟩
 mono:=fun⟨cv,h,h2,h3⟩ hB=>⟨cv,h,jw h2 hB,h3⟩
def SI{α:Type}(r:io α)(w:World)(v:Value)(l:List α):Prop:=(aP r).one w (fun b=>b<w.heap.size) v l
structure MV where
 attrs:Value
 inits:Value
 users:Value
 roles:Value
 stages:Value
 events:Value
 guards:Value
 miles:Value
 sods:Value
 order:Value
abbrev MV.cells(V:MV):Array Value:=#[V.attrs,V.inits,V.users,V.roles,V.stages,V.events,V.guards,V.miles,V.sods,V.order]
structure Ct(w:World)(V:MV)(m:aJ):Prop where
 attrs:SI qV w V.attrs m.attrs
 inits:SI (eW .i64) w V.inits m.inits
 users:SI qV w V.users m.users
 roles:SI fO w V.roles m.roles
 stages:SI fO w V.stages m.stages
 events:SI TN w V.events m.events
 guards:SI Tw w V.guards m.guards
 miles:SI Tp w V.miles m.miles
 sods:SI o8 w V.sods m.sods
 order:SI oM w V.order m.order
end
section
theorem eX(i:Int)(w:World):Calls Tryz.prog 162 #[.int .i64 i] w fun e w'=>e=.returned (.bool (decide (0<=i) && decide (i<31)))/\w=w':=by
 by_cases h:0<=i<;>(go_enter Tryz.func162,Tryz.ntmps162;go_wp2;go_ret;exact⟨by congr 2;simp[h]<;>omega,rfl⟩)
theorem l5{a b:Bool}(h:a=b):Ending.returned (.bool a)=.returned (.bool b):=by rw[h]
theorem ia{a b:Int}(h:a=b):Ending.returned (.int .i64 a)=.returned (.int .i64 b):=by rw[h]
theorem wU(s i:Int)(w:World):Calls Tryz.prog 182 #[.int .i64 s,.int .i64 i] w fun e w'=>e=.returned (.bool (aQ s i))/\w=w':=by
 by_cases h0:0<=i
 .by_cases h1:i<31
  .have e0:decide (0<=i)=true:=by simp;omega
   have e1:decide (i<31)=true:=by simp;omega
   go_enter Tryz.func182,Tryz.ntmps182
   go_wp2_with (go_at_call 162;refine(eX _ _).mono ?_;rintro e w' ⟨rfl,rfl⟩)
   go_ret
   exact⟨l5 (by unfold aQ;rw[yS,e0,e1];rfl),rfl⟩
  .have e0:decide (0<=i)=true:=by simp;omega
   have e1:decide (i<31)=false:=by simp;omega
   go_enter Tryz.func182,Tryz.ntmps182
   go_wp2_with (go_at_call 162;refine(eX _ _).mono ?_;rintro e w' ⟨rfl,rfl⟩)
   go_ret
   exact⟨l5 (by unfold aQ;rw[e0,e1];rfl),rfl⟩
 .have e0:decide (0<=i)=false:=by simp;omega
  go_enter Tryz.func182,Tryz.ntmps182
  go_wp2_with (go_at_call 162;refine(eX _ _).mono ?_;rintro e w' ⟨rfl,rfl⟩)
  go_ret
  exact⟨l5 (by unfold aQ;rw[e0];rfl),rfl⟩
theorem pR(a:Int)(w:World):Calls Tryz.prog 216 #[.int .i64 a] w fun e w'=>e=.returned (.bool false)/\w=w':=by
 go_enter Tryz.func216,Tryz.ntmps216
 go_wp2
 go_ret
 exact⟨l5 (by simp),rfl⟩
theorem O7(a b:Int)(w:World):Calls Tryz.prog 186 #[.int .i64 a,.int .i64 b] w fun e w'=>e=.returned (.int .i64 (n8 a b))/\w=w':=by
 by_cases h1:a<b
 .go_enter Tryz.func186,Tryz.ntmps186
  go_wp2_with (go_at_call 216;refine(pR _ _).mono ?_;rintro e w' ⟨rfl,rfl⟩)
  go_ret
  exact⟨ia (by unfold n8;(repeat' split)<;>omega),rfl⟩
 .by_cases h2:b<a
  .go_enter Tryz.func186,Tryz.ntmps186
   go_wp2_with (go_at_call 216;refine(pR _ _).mono ?_;rintro e w' ⟨rfl,rfl⟩)
   go_ret
   exact⟨ia (by unfold n8;(repeat' split)<;>omega),rfl⟩
  .go_enter Tryz.func186,Tryz.ntmps186
   go_wp2_with (go_at_call 216;refine(pR _ _).mono ?_;rintro e w' ⟨rfl,rfl⟩)
   go_ret
   exact⟨ia (by unfold n8;(repeat' split)<;>omega),rfl⟩
theorem RC(op c:Int)(w:World):Calls Tryz.prog 224 #[.int .i64 op,.int .i64 c] w fun e w'=>e=.returned (.bool (Ta op c))/\w=w':=by
 have key:(op=3\/op=4\/op=5\/op=6\/op=7\/op=8)\/((op == 3)=false/\(op == 4)=false/\(op == 5)=false/\(op == 6)=false/\(op == 7)=false/\(op == 8)=false):=by
  simp;omega
 rcases key with (rfl|rfl|rfl|rfl|rfl|rfl)|⟨h3,h4,h5,h6,h7,h8⟩
 all_goals
  go_enter Tryz.func224,Tryz.ntmps224
  go_wp2
  go_ret
  refine⟨l5 ?_,rfl⟩
  first|rfl|(simp at h3 h4 h5 h6 h7 h8;simp[Ta, *])
theorem mI(op:Int)(w:World):Calls Tryz.prog 226 #[.int .i64 op] w fun e w'=>e=.returned (.int .i64 (be op))/\w=w':=by
 have key:(1<=op/\op<=14)\/op=15\/(19<=op/\op<=24)\/(16<=op/\op<=18)\/op=25\/op=26\/op<1\/26<op:=by omega
 rcases key with ⟨h1,h2⟩|rfl|⟨h1,h2⟩|⟨h1,h2⟩|rfl|rfl|h1|h1
 all_goals
  go_enter Tryz.func226,Tryz.ntmps226
  go_wp2
  all_goals go_ret
  all_goals refine⟨ia ?_,rfl⟩
  all_goals(unfold be;(repeat' split)<;>first|rfl|omega)
end
end
section
section
def jA(s:Int):Nat:=(s % 2147483648).toNat
theorem dD(s:Int):jA s<2 ^ 31:=by unfold jA;omega
theorem nC(n:Nat)(h:n<2 ^ 31):jA (n:Int)=n:=by unfold jA;omega
def bn(s i:Int):Int:=if 0<=i/\i<31 then ((jA s ||| 2 ^ i.toNat:Nat):Int) else (jA s:Int)
def aZ(s i:Int):Int:=if 0<=i/\i<31 then ((jA s ^^^ (jA s &&& 2 ^ i.toNat):Nat):Int) else (jA s:Int)
theorem cR(s:Int)(j:Nat)(hj:j<31):aQ s (j:Int)=(jA s).testBit j:=by
 have h1:aQ s (j:Int)=(s / 2 ^ j % 2 == 1):=by
  unfold aQ;rw[show decide (0<=(j:Int))=true by simp,show decide ((j:Int)<31)=true by simp;omega];rfl
 rw[h1,Nat.testBit_eq_decide_div_mod_eq]
 have hs:s=2 ^ j * (2 ^ (30-j) * 2 * (s / 2147483648))+s % 2147483648:=by
  have e:(2:Int) ^ j * (2 ^ (30-j) * 2 * (s / 2147483648))=(2 ^ j * 2 ^ (30-j) * 2) * (s / 2147483648):=by
   rw[<- Int.mul_assoc,<- Int.mul_assoc]
  rw[e,<- Int.pow_add,show j+(30-j)=30 by omega];have:=Int.mul_ediv_add_emod s 2147483648;omega
 have h2:s / 2 ^ j % 2=((jA s / 2 ^ j % 2:Nat):Int):=by
  have hr:((jA s:Nat):Int)=s % 2147483648:=by unfold jA;omega
  rw[Int.natCast_emod,Int.natCast_ediv,hr];have hp:((2 ^ j:Nat):Int)=2 ^ j:=by simp
  rw[hp]
  conv=>lhs;rw[hs]
  rw[Int.add_comm,Int.add_mul_ediv_left _ _ (by have:(0:Int)<2 ^ j:=Int.pow_pos (by omega);omega)];rw[show(2:Int) ^ (30-j) * 2 * (s / 2147483648)=2 * (2 ^ (30-j) * (s / 2147483648)) by rw[Int.mul_comm ((2:Int) ^ (30-j)) 2,Int.mul_assoc]];omega
 rw[h2];generalize jA s / 2 ^ j % 2=n;rw[Wl];simp;omega
theorem kd(s j:Int)(hj:¬(0<=j/\j<31)):aQ s j=false:=by
 unfold aQ;by_cases h:0<=j
 .rw [show decide (j<31)=false by simp;omega];simp
 .rw [show decide (0<=j)=false by simp;omega];rfl
theorem gT(s i j:Int):aQ (bn s i) j=((decide (0<=i/\i<31) && (j == i)) || aQ s j):=by
 by_cases hj:0<=j/\j<31
 .obtain ⟨n,rfl⟩:∃n:Nat,j=(n:Int):=⟨j.toNat,by omega⟩;unfold bn;by_cases hi:0<=i/\i<31
  .obtain ⟨k,rfl⟩:∃k:Nat,i=(k:Int):=⟨i.toNat,by omega⟩;have hl:jA s ||| 2 ^ k<2 ^ 31:=Wq (dD s) (Wg (by omega) (by omega));rw[UZ hi,VD,cR _ _ (by omega),nC _ hl,Nat.testBit_or,cR _ _ (by omega),Nat.testBit_two_pow,Bool.or_comm]
   congr 1
   rw[Wl];simp;omega
  .rw [UX hi,cR _ _ (by omega),nC _ (dD s),cR _ _ (by omega)];simp[hi]
 .rw [kd _ _ hj,kd _ _ hj,Bool.or_false];symm;rw[Vy];by_cases hi:0<=i/\i<31
  .right;exact Vv.2 (by omega)
  .left;simpa using hi
theorem de(s i j:Int):aQ (aZ s i) j=(!(j == i) && aQ s j):=by
 by_cases hj:0<=j/\j<31
 .obtain ⟨n,rfl⟩:∃n:Nat,j=(n:Int):=⟨j.toNat,by omega⟩;unfold aZ;by_cases hi:0<=i/\i<31
  .obtain ⟨k,rfl⟩:∃k:Nat,i=(k:Int):=⟨i.toNat,by omega⟩;have hl:jA s ^^^ (jA s &&& 2 ^ k)<2 ^ 31:=Xv (dD s) (Xb Xz (dD s));rw[UZ hi,VD,cR _ _ (by omega),nC _ hl,Nat.testBit_xor,XA,Nat.testBit_two_pow,cR _ _ (by omega)];by_cases e:n=k
   .subst e;cases (jA s).testBit n<;>simp
   .rw [show((n:Int) == (k:Int))=false from Vv.2 (by omega),show decide (k=n)=false by simp;omega];simp
  .rw [UX hi,cR _ _ (by omega),nC _ (dD s),cR _ _ (by omega),show((n:Int) == i)=false from Vv.2 (by omega)];rfl
 .rw [kd _ _ hj,kd _ _ hj,Bool.and_false]
theorem dk(a:Nat)(ha:a<2 ^ 64):(BitVec.ofInt 64 (a:Int)).toNat=a:=by
 rw[BitVec.ofInt_natCast,BitVec.toNat_ofNat];exact Nat.mod_eq_of_lt ha
theorem j6(n:Nat)(h:n<2 ^ 63):IntKind.i64.wrap (n:Int)=(n:Int):=by
 simp[IntKind.wrap,IntKind.bits,IntKind.signed];omega
theorem mr(s:Int):bits .and .i64 s 2147483647=(jA s:Int):=by
 show IntKind.i64.wrap ((BitVec.ofInt 64 s &&& BitVec.ofInt 64 2147483647).toNat:Int)=_
 have h:(BitVec.ofInt 64 s &&& BitVec.ofInt 64 2147483647).toNat=jA s:=by
  rw[BitVec.toNat_and,show(BitVec.ofInt 64 2147483647).toNat=2 ^ 31-1 from rfl,Nat.and_two_pow_sub_one_eq_mod,BitVec.toNat_ofInt];unfold jA;omega
 rw[h];exact j6 _ (Nat.lt_trans (dD s) (by decide))
theorem JG(a b:Nat)(ha:a<2 ^ 62)(hb:b<2 ^ 62):bits .or .i64 (a:Int) (b:Int)=((a ||| b:Nat):Int):=by
 show IntKind.i64.wrap ((BitVec.ofInt 64 (a:Int) ||| BitVec.ofInt 64 (b:Int)).toNat:Int)=_;rw[BitVec.toNat_or,dk a (by omega),dk b (by omega)];exact j6 _ (Nat.lt_trans (Wq ha hb) (by decide))
theorem Br(a b:Nat)(ha:a<2 ^ 62)(hb:b<2 ^ 62):bits .andNot .i64 (a:Int) (b:Int)=((a ^^^ (a &&& b):Nat):Int):=by
 show IntKind.i64.wrap ((BitVec.ofInt 64 (a:Int) &&& ~~~ BitVec.ofInt 64 (b:Int)).toNat:Int)=_
 have h:(BitVec.ofInt 64 (a:Int) &&& ~~~ BitVec.ofInt 64 (b:Int)).toNat=a ^^^ (a &&& b):=by
  apply Wt;intro i;rw[BitVec.toNat_and,XA,dk a (by omega),BitVec.testBit_toNat,BitVec.getLsbD_not,Nat.testBit_xor,XA,<- BitVec.testBit_toNat,dk b (by omega)];by_cases hi:i<64
  .simp [hi];cases a.testBit i<;>cases b.testBit i<;>rfl
  .have:a.testBit i=false:=V6 (UY ha (Vp (by omega) (by omega)));simp[this]
 rw[h];exact j6 _ (Nat.lt_trans (Xv ha (Xb Xz ha)) (by decide))
theorem zN(i:Int)(h0:0<=i)(h1:i<31):wrap64 (2 ^ i.toNat)=((2 ^ i.toNat:Nat):Int):=by
 have h2:(2:Nat) ^ i.toNat<2 ^ 31:=Wg (by omega) (by omega);have e:(2:Int) ^ i.toNat=((2 ^ i.toNat:Nat):Int):=by simp
 rw[e];clear e;generalize (2:Nat) ^ i.toNat=n at *;exact IntWalk.wrap64_in _ ⟨by omega,by omega⟩
theorem JE(s i:Int)(w:World):Calls Tryz.prog 122 #[.int .i64 s,.int .i64 i] w fun e w'=>e=.returned (.int .i64 (bn s i))/\w=w':=by
 unfold bn;by_cases h0:0<=i
 .by_cases h1:i<31
  .have e0:decide (0<=i)=true:=by simp;omega
   have e1:decide (i<31)=true:=by simp;omega
   rw[UZ ⟨h0,h1⟩]
   go_enter Tryz.func122,Tryz.ntmps122
   go_wp2_with (go_at_call 162;refine(eX _ _).mono ?_;rintro e w' ⟨rfl,rfl⟩)
   go_ret
   exact⟨ia (by rw[mr,zN i h0 h1,JG _ _ (Nat.lt_trans (dD s) (by decide)) (Wg (by omega) (by omega))]),rfl⟩
  .have e0:decide (0<=i)=true:=by simp;omega
   have e1:decide (i<31)=false:=by simp;omega
   rw[UX (by omega)]
   go_enter Tryz.func122,Tryz.ntmps122
   go_wp2_with (go_at_call 162;refine(eX _ _).mono ?_;rintro e w' ⟨rfl,rfl⟩)
   go_ret
   exact⟨ia (mr s),rfl⟩
 .have e0:decide (0<=i)=false:=by simp;omega
  rw[UX (by omega)]
  go_enter Tryz.func122,Tryz.ntmps122
  go_wp2_with (go_at_call 162;refine(eX _ _).mono ?_;rintro e w' ⟨rfl,rfl⟩)
  go_ret
  exact⟨ia (mr s),rfl⟩
theorem AR(s i:Int)(w:World):Calls Tryz.prog 155 #[.int .i64 s,.int .i64 i] w fun e w'=>e=.returned (.int .i64 (aZ s i))/\w=w':=by
 unfold aZ;by_cases h0:0<=i
 .by_cases h1:i<31
  .have e0:decide (0<=i)=true:=by simp;omega
   have e1:decide (i<31)=true:=by simp;omega
   rw[UZ ⟨h0,h1⟩]
   go_enter Tryz.func155,Tryz.ntmps155
   go_wp2_with (go_at_call 162;refine(eX _ _).mono ?_;rintro e w' ⟨rfl,rfl⟩)
   go_ret
   exact⟨ia (by rw[mr,zN i h0 h1,Br _ _ (Nat.lt_trans (dD s) (by decide)) (Wg (by omega) (by omega))]),rfl⟩
  .have e0:decide (0<=i)=true:=by simp;omega
   have e1:decide (i<31)=false:=by simp;omega
   rw[UX (by omega)]
   go_enter Tryz.func155,Tryz.ntmps155
   go_wp2_with (go_at_call 162;refine(eX _ _).mono ?_;rintro e w' ⟨rfl,rfl⟩)
   go_ret
   exact⟨ia (mr s),rfl⟩
 .have e0:decide (0<=i)=false:=by simp;omega
  rw[UX (by omega)]
  go_enter Tryz.func155,Tryz.ntmps155
  go_wp2_with (go_at_call 162;refine(eX _ _).mono ?_;rintro e w' ⟨rfl,rfl⟩)
  go_ret
  exact⟨ia (mr s),rfl⟩
end
section
abbrev gc(x:aw):List AV:=[eI x.op,eI x.la,eI x.ln,eI x.ra,eI x.rn,eI x.n,eI x.u]
abbrev bf(l:List aw):AV:=.sl 7 (l.map gc)
abbrev El(g:Gd):List AV:=[eI g.stage,eI g.event,bf g.cond]
abbrev yg(g:Ml):List AV:=[eS g.name,eI g.stage,eI g.event,bf g.cond,eB g.final]
abbrev t9(g:Ev):List AV:=[eS g.name,eI g.role,eI g.stage,sI g.sets,eI g.times]
abbrev Mq(p:ByteArray×Int):List AV:=[eS p.1,eI p.2]
abbrev DG(p:Int×Int):List AV:=[eI p.1,eI p.2]
abbrev gk(p:Bool×Int):List AV:=[eB p.1,eI p.2]
abbrev aC(m:aJ):List AV:=[.sl 1 (m.attrs.map fun s=>[eS s]),sI m.inits,.sl 1 (m.users.map fun s=>[eS s]),.sl 2 (m.roles.map Mq),.sl 2 (m.stages.map Mq),.sl 5 (m.events.map t9),.sl 3 (m.guards.map El),.sl 5 (m.miles.map yg),.sl 2 (m.sods.map DG),.sl 2 (m.order.map gk)]
abbrev cy(s:St):List AV:=[sI s.vals,eI s.opn,eI s.don,sI s.did,sI s.cnt]
def pars(m:aJ):List Int:=m.stages.map (·.2)
def iR(m:aJ):Prop:=(∀g∈m.guards,∀x∈g.cond,x.ok)/\∀g∈m.miles,∀x∈g.cond,x.ok
theorem ag:Tryz.prog.follows .mixedOrders=true:=by kernel_rfl
def tw(m:aJ):Prop:=m.guards.length<=14/\m.miles.length<=10/\m.stages.length<=10/\m.events.length<=10/\m.attrs.length<=10/\m.users.length<=10/\m.roles.length<=10/\m.sods.length<=10/\m.order.length<=40/\m.inits.length<=10
structure jN(m:aJ):Prop where
 sizes:tw m
 guards:∀g∈m.guards,g.cond.length<=80
 miles:∀g∈m.miles,g.cond.length<=80
 events:∀g∈m.events,g.sets.length<=10
def O0(s:St):Prop:=s.vals.length<=150/\s.did.length<=150/\s.cnt.length<=150
theorem Fy(m:aJ):dp Tryz.prog 4 [.agg (aC m)] fun R=>∃b,R=val (.bool b)/\(b=false->jN m):=by
 refine bj ag Tryz.func4 rfl (by decide) Tryz.ntmps4 Tryz.results4 rfl ?_
 repeat' first|refine go ?_|decide|refine sp ?_ ?_<;>intro _
 all_goals first|with_reducible exact cK ⟨true,rfl,fun h=>by cases h⟩|skip
 have hS:tw m:=by simp_all [tw];omega
 obtain⟨h1,h2,h3,h4,h5,h6,h7,h8,h9,h10⟩:=id hS;refine af (fun st=>∃k:Nat,k<=m.guards.length/\(∀i (h:i<m.guards.length),i<k->m.guards[i].cond.length<=80)/\st=⟨109,[(1,.op 0 0 0),(3,eI (k:Int))],[(0,some (.box 32 (aC m)))],1⟩) (fun st=>m.guards.length-ax st 3) ⟨_,wC,0,UR _,?_,rfl⟩ ?_
 .exact fun i h h2=>absurd h2 (by omega)
 rintro _ ⟨k,hk,hg,rfl⟩;by_cases hlt:k<m.guards.length
 .repeat' first|refine go ?_|simp only[ab,hlt]|decide|refine sp ?_ ?_<;>intro _
  .with_reducible exact cK ⟨true,rfl,fun h=>by cases h⟩
  .rename_i hc;refine rI wC ⟨k+1,by omega,fun i h h2=>?_,rfl⟩;rcases U9 i k with h3|h3
   .exact hg i h h3
   .obtain rfl:i=k:=by omega
    simp at hc;omega
 repeat' first|decide|refine go ?_|simp only[ab,hlt]
 refine af (fun st=>∃q:Nat,q<=m.miles.length/\(∀i (h:i<m.miles.length),i<q->m.miles[i].cond.length<=80)/\st=⟨109,[(1,.op 0 0 0),(4,eI (q:Int))],[(0,some (.box 32 (aC m)))],1⟩) (fun st=>m.miles.length-ax st 4) ⟨_,wC,0,UR _,?_,rfl⟩ ?_
 .exact fun i h h2=>absurd h2 (by omega)
 rintro _ ⟨q,hq,hm,rfl⟩;by_cases hlt2:q<m.miles.length
 .repeat' first|refine go ?_|simp only[ab,hlt2]|decide|refine sp ?_ ?_<;>intro _
  .with_reducible exact cK ⟨true,rfl,fun h=>by cases h⟩
  .rename_i hc;refine rI wC ⟨q+1,by omega,fun i h h2=>?_,rfl⟩;rcases U9 i q with h3|h3
   .exact hm i h h3
   .obtain rfl:i=q:=by omega
    simp at hc;omega
 repeat' first|decide|refine go ?_|simp only[ab,hlt2]
 refine af (fun st=>∃r:Nat,r<=m.events.length/\(∀i (h:i<m.events.length),i<r->m.events[i].sets.length<=10)/\st=⟨109,[(1,.op 0 0 0),(5,eI (r:Int))],[(0,some (.box 32 (aC m)))],1⟩) (fun st=>m.events.length-ax st 5) ⟨_,wC,0,UR _,?_,rfl⟩ ?_
 .exact fun i h h2=>absurd h2 (by omega)
 rintro _ ⟨r,hr,he,rfl⟩;by_cases hlt3:r<m.events.length
 .repeat' first|refine go ?_|simp only[ab,hlt3]|decide|refine sp ?_ ?_<;>intro _
  .with_reducible exact cK ⟨true,rfl,fun h=>by cases h⟩
  .rename_i hc;refine rI wC ⟨r+1,by omega,fun i h h2=>?_,rfl⟩;rcases U9 i r with h3|h3
   .exact he i h h3
   .obtain rfl:i=r:=by omega
    simp at hc;omega
 repeat' first|decide|refine go ?_|simp only[ab,hlt3]
 refine cK ⟨false,rfl,fun _=>⟨hS,fun g hg'=>?_,fun g hg'=>?_,fun g hg'=>?_⟩⟩
 .obtain ⟨i,hi,rfl⟩:=U8 hg';exact hg i hi (by omega)
 .obtain ⟨i,hi,rfl⟩:=U8 hg';exact hm i hi (by omega)
 .obtain ⟨i,hi,rfl⟩:=U8 hg';exact he i hi (by omega)
def df(n most:Int):Bool:=decide (0<=n) && decide (n<most)
theorem uw(n most:Int):am Tryz.prog 37 [eI n,eI most] (val (.bool (df n most))):=by
 refine aa ag Tryz.func37 rfl (by decide) Tryz.ntmps37 Tryz.results37 rfl (aD _) ?_
 repeat' first|decide|refine go ?_
 unfold df
 with_reducible refine vl (fun h=>?_) (fun h=>?_)<;>simp -implicitDefEqProofs (maxSteps:=5000000) only[w5,↓reduceIte,reduceCtorEq,Nat.reduceLT,Nat.reduceEqDiff,Nat.reduceAdd,Nat.reduceMul,Nat.reduceSub,Nat.reduceLeDiff,Nat.reduceBEq]<;>simp at h<;>simp[h]<;>omega
theorem P4(m:aJ)(l:List Int)(hl:l.length<=1000000)(b:Bool)(hb:b=true↔ ∀i (h:i<l.length),df l[i] m.attrs.length=true/\∀j (h:j<i),l[j]≠l[i]):am Tryz.prog 38 [.agg (aC m),sI l] (val (.bool b)):=by
 refine aa ag Tryz.func38 rfl (by decide) Tryz.ntmps38 Tryz.results38 rfl (aD _) ?_
 repeat' first|decide|refine go ?_
 refine af (fun st=>∃k:Nat,k<=l.length/\(∀i (h:i<l.length),i<k->df l[i] m.attrs.length=true/\∀j (h:j<i),l[j]≠l[i])/\st=⟨36,[(1,sI l),(2,.op 0 0 0),(5,eI k)],[(0,some (.box 32 (aC m)))],1⟩) (fun st=>l.length-ax st 5)
  ⟨_,wC,0,UR _,fun i h1 h2=>absurd h2 (by omega),rfl⟩ ?_
 rintro _ ⟨k,hk,hI,rfl⟩;by_cases hlt:k<l.length
 .repeat' first|decide|refine go ?_|simp only[ab,hlt]
  refine ay (by kernel_rfl) ?_
  repeat' first|decide|refine go ?_|simp only[ab,hlt]
  refine aO (uw _ _) ?_
  repeat' first|decide|refine go ?_|simp only[ab,hlt]
  with_reducible refine kG (fun hin=>?_) (fun hin=>?_)<;>simp -implicitDefEqProofs (maxSteps:=5000000) only[w5,↓reduceIte,reduceCtorEq,Nat.reduceLT,Nat.reduceEqDiff,Nat.reduceAdd,Nat.reduceMul,Nat.reduceSub,Nat.reduceLeDiff,Nat.reduceBEq,ab,hlt]
  .simp at hin;symm;rw[VA];intro hbt;have:=(hb.1 hbt k hlt).1;rw[hin] at this;cases this
  .simp at hin
   refine af (fun st=>∃q:Nat,q<=k/\(∀j (h:j<k),j<q->l[j]≠l[k])/\st=⟨36,[(1,sI l),(2,.op 0 0 0),(5,eI k),(6,eI q)],[(0,some (.box 32 (aC m)))],1⟩) (fun st=>k-ax st 6)
    ⟨_,wC,0,UR _,fun i h1 h2=>absurd h2 (by omega),rfl⟩ ?_
   rintro _ ⟨q,hq,hJ,rfl⟩;by_cases hqk:q<k
   .have hql:q<l.length:=by omega
    repeat' first|decide|refine go ?_|simp only[ab,hlt,hqk,hql]
    refine ay (by kernel_rfl) ?_
    repeat' first|decide|refine go ?_|simp only[ab,hlt,hqk,hql]
    with_reducible refine kG (fun he=>?_) (fun he=>?_)<;>simp -implicitDefEqProofs (maxSteps:=5000000) only[w5,↓reduceIte,reduceCtorEq,Nat.reduceLT,Nat.reduceEqDiff,Nat.reduceAdd,Nat.reduceMul,Nat.reduceSub,Nat.reduceLeDiff,Nat.reduceBEq,ab,hlt,hqk,hql]
    .symm;rw[VA];intro hbt;exact(hb.1 hbt k hlt).2 q hqk (by simpa using he)
    .refine gv wC ⟨q+1,by omega,fun j h1 h2=>?_,rfl⟩ ?_
     .simp at he;rcases U9 j q with h3|h3
      .exact hJ j h1 h3
      .obtain rfl:j=q:=by omega
       exact he
     .exact (by simp only[ax,iC,aj.get,aX,aj.put,↓reduceIte,reduceCtorEq,Nat.reduceLT,Nat.reduceEqDiff,Nat.reduceAdd,Nat.reduceLeDiff,eq_self,implies_true];omega)
   .repeat' first|decide|refine go ?_|simp only[ab,hlt,hqk]
    refine gv wC ⟨k+1,by omega,fun j h1 h2=>?_,rfl⟩ ?_
    .rcases U9 j k with h3|h3
     .exact hI j h1 h3
     .obtain rfl:j=k:=by omega
      exact⟨hin,fun i hi=>hJ i hi (by omega)⟩
    .exact (by simp only[ax,iC,aj.get,aX,aj.put,↓reduceIte,reduceCtorEq,Nat.reduceLT,Nat.reduceEqDiff,Nat.reduceAdd,Nat.reduceLeDiff,eq_self,implies_true];omega)
 .repeat' first|decide|refine go ?_|simp only[ab,hlt]
  symm;exact hb.2 fun i h=>hI i h (by omega)
theorem yX(a b:List Int)(ha:a.length<=1000000):am Tryz.prog 77 [sI a,sI b] (val (.bool (decide (a=b)))):=by
 refine aa ag Tryz.func77 rfl (by decide) Tryz.ntmps77 Tryz.results77 rfl (aD _) ?_
 repeat' first|decide|refine go ?_
 with_reducible refine kG (fun he=>?_) (fun he=>?_)<;>simp -implicitDefEqProofs (maxSteps:=5000000) only[w5,↓reduceIte,reduceCtorEq,Nat.reduceLT,Nat.reduceEqDiff,Nat.reduceAdd,Nat.reduceMul,Nat.reduceSub,Nat.reduceLeDiff,Nat.reduceBEq]
 .symm;rw[Vf];rintro rfl;simp at he
 have hl:a.length=b.length:=by simp at he;omega
 refine af (fun st=>∃k:Nat,k<=a.length/\(∀i (h:i<a.length) (h2:i<b.length),i<k->a[i]=b[i])/\st=⟨26,[(0,sI a),(1,sI b),(5,eI (k:Int))],[],0⟩) (fun st=>a.length-ax st 5) ⟨_,wC,0,UR _,?_,rfl⟩ ?_
 .exact fun i h h2 h3=>absurd h3 (by omega)
 rintro _ ⟨k,hk,hI,rfl⟩;by_cases hlt:k<a.length
 .have hlt2:k<b.length:=by omega
  repeat' first|decide|refine go ?_|simp only[ab,hlt,hlt2]
  refine ay (by kernel_rfl) ?_
  repeat' first|decide|refine go ?_|simp only[ab,hlt,hlt2]
  with_reducible refine kG (fun hn=>?_) (fun hn=>?_)<;>simp -implicitDefEqProofs (maxSteps:=5000000) only[w5,↓reduceIte,reduceCtorEq,Nat.reduceLT,Nat.reduceEqDiff,Nat.reduceAdd,Nat.reduceMul,Nat.reduceSub,Nat.reduceLeDiff,Nat.reduceBEq,ab,hlt,hlt2]
  .symm;rw[Vf];rintro rfl;simp at hn
  .refine rI wC ⟨k+1,by omega,fun i h h2 h3=>?_,rfl⟩;rcases U9 i k with h4|h4
   .exact hI i h h2 h4
   .obtain rfl:i=k:=by omega
    simpa using hn
 .repeat' first|decide|refine go ?_|simp only[ab,hlt]
  symm;rw[decide_eq_true_iff];exact List.ext_getElem hl fun i h1 h2=>hI i h1 h2 (by omega)
end
section
theorem pD:∀(n:Nat)(l:List Int),l.Nodup->(∀x∈l,0<=x/\x<(n:Int))->l.length<=n:=by
 intro n
 induction n with
 | zero=>
  intro l _ h
  cases l with
  | nil=>simp
  | cons x l=>have:=h x (by simp);omega
 | succ n ih=>
  intro l hn h;by_cases hm:(n:Int)∈l
  .have h1:=ih (l.erase (n:Int)) (hn.erase _) (fun x hx=>by
    have:=(hn.mem_erase_iff).1 hx;have:=h x this.2;omega)
   rw[List.length_erase_of_mem hm] at h1;omega
  .have:=ih l hn (fun x hx=>by
    have h2:=h x hx;have:x≠(n:Int):=fun e=>hm (e ▸ hx);omega)
   omega
def da(l:List Int)(i:Int):Prop:=0<=i/\i<(l.length:Int)
instance (l:List Int) (i:Int):Decidable (da l i):=by unfold da;infer_instance
def pS(l:List Int)(i:Int):Int:=if da l i then i else -1
def fF(l:List Int)(i:Int):Int:=if da l i then pS l (l.getD i.toNat 0) else -1
def gi(l:List Int)(i:Int):Nat->Int
 | 0=>pS l i
 | k+1=>fF l (gi l i k)
def Ik(l:List Int)(i:Int):Nat->Int->List Int->List Int
 | 0,_,out=>out
 | f+1,p,out=>if fF l p = -1\/fF l p=i\/fF l p∈out then out else Ik l i f (fF l p) (out ++ [fF l p])
def bI(l:List Int)(i:Int):List Int:=Ik l i l.length i []
theorem fv(l:List Int)(i:Int):(da l i/\pS l i=i)\/(¬da l i/\pS l i = -1):=by
 unfold pS;split<;>simp[*]
theorem OY(l:List Int)(i:Int):pS l i = -1\/da l (pS l i):=by
 rcases fv l i with ⟨h,e⟩|⟨_,e⟩<;>rw[e]
 .exact .inr h
 .exact .inl rfl
theorem Bv(l:List Int)(i:Int):fF l i = -1\/da l (fF l i):=by
 unfold fF;split
 .exact OY _ _
 .exact .inl rfl
theorem yk(l:List Int)(i:Int):fF l (pS l i)=fF l i:=by
 rcases fv l i with ⟨h,e⟩|⟨h,e⟩
 .rw [e]
 .rw [e];unfold fF;rw[UX h,UX (by simp[da])]
theorem sR(l:List Int):fF l (-1) = -1:=by unfold fF;rw[UX (by simp[da])]
theorem yO(l:List Int)(i:Int)(k:Nat)(h:gi l i k = -1):∀d,gi l i (k+d) = -1
 | 0=>h
 | d+1=>by rw[<- Ww,gi,yO l i k h d,sR]
theorem mR(l:List Int)(i:Int):gi l i 1=fF l i:=yk l i
structure mo(l:List Int)(i:Int)(m:Nat)(p:Int)(out:List Int):Prop where
 len:out.length=m
 eq:∀j,j<m->out[j]? = some (gi l i (j+1))
 cur:fF l p=gi l i (m+1)
 nodup:out.Nodup
 at_:∀x∈out,da l x
 not:i∉out
 room:m<=l.length
 rest:Ik l i (l.length-m) p out=bI l i
theorem mo.start(l:List Int)(i:Int):mo l i 0 i []:=
 ⟨rfl,fun j h=>by omega,(mR l i).symm,List.nodup_nil,fun x h=>by simp at h,by simp,by omega,rfl⟩
def m9(l:List Int)(i:Int)(p:Int)(out:List Int):Prop:=fF l p = -1\/fF l p=i\/fF l p∈out
instance (l:List Int) (i p:Int) (out:List Int):Decidable (m9 l i p out):=by unfold m9;infer_instance
theorem mo.stop{l:List Int}{i:Int}{m:Nat}{p:Int}{out:List Int}(h:mo l i m p out)(hs:m9 l i p out):out=bI l i:=by
 rw[<- h.rest]
 cases l.length-m with
 | zero=>rfl
 | succ f=>rw[Ik];exact(UZ hs).symm
theorem mo.next{l:List Int}{i:Int}{m:Nat}{p:Int}{out:List Int}(h:mo l i m p out)(hs:¬m9 l i p out):mo l i (m+1) (fF l p) (out ++ [fF l p])/\m+1<=l.length:=by
 unfold m9 at hs;simp only[not_or] at hs;have hat:da l (fF l p):=(Bv l p).resolve_left hs.1
 have hnd:(out ++ [fF l p]).Nodup:=by
  rw[List.nodup_append];refine⟨h.nodup,by simp,fun a ha b hb e=>?_⟩;simp at hb;subst hb;subst e;exact hs.2.2 ha
 have hall:∀x∈out ++ [fF l p],da l x:=by
  intro x hx;rcases U4.1 hx with hx|hx
  .exact h.at_ x hx
  .simp at hx;subst hx;exact hat
 have hlen:m+1<=l.length:=by
  have:=pD l.length _ hnd hall;simp[h.len] at this;exact this
 refine⟨⟨by simp[h.len],fun j hj=>?_,by rw[show gi l i (m+1+1)=fF l (gi l i (m+1)) from rfl,h.cur],hnd,hall,?_,hlen,?_⟩,hlen⟩
 .by_cases hjm:j<m
  .rw [Vq (by rw[h.len];exact hjm)];exact h.eq j hjm
  .have:j=m:=by omega
   subst this;rw[Vu (by rw[h.len];omega),h.len,W6];simp[h.cur]
 .intro hi;rcases U4.1 hi with hi|hi
  .exact h.not hi
  .simp at hi;exact hs.2.1 hi.symm
 .have:=h.rest;rw[show l.length-m=(l.length-(m+1))+1 from by omega,Ik,UX (by simp only[not_or];exact hs)] at this;exact this
theorem kS(l:List Int)(i:Int):∃m p,mo l i m p (bI l i)/\m9 l i p (bI l i):=by
 have key:∀(f m:Nat)(p:Int)(out:List Int),mo l i m p out->l.length+1-m<=f->∃m p,mo l i m p (bI l i)/\m9 l i p (bI l i):=by
  intro f
  induction f with
  | zero=>intro m p out h hf;have:=h.room;omega
  | succ f ih=>
   intro m p out h hf;by_cases hs:m9 l i p out
   .have e:=h.stop hs;rw[e] at h hs;exact⟨m,p,h,hs⟩
   .have:=(h.next hs).1;exact ih _ _ _ this (by omega)
 exact key _ 0 i [] (mo.start l i) (UU _)
def j0(l:List Int)(i:Int):Prop:=da l i/\fF l (((bI l i).getLast?).getD i)=i
instance (l:List Int) (i:Int):Decidable (j0 l i):=by unfold j0;infer_instance
theorem IR{l:List Int}{i:Int}{m:Nat}{p:Int}{out:List Int}(h:mo l i m p out):fF l ((out.getLast?).getD i)=gi l i (m+1):=by
 cases m with
 | zero=>
  have:out=[]:=VW h.len;subst this;exact(mR l i).symm
 | succ m=>
  have h1:=h.eq m (by omega);rw[List.getLast?_eq_getElem?,h.len,Wm,h1];rfl
theorem wO{l:List Int}{i:Int}{m:Nat}{p:Int}(h:mo l i m p (bI l i))(hs:m9 l i p (bI l i))(hc:gi l i (m+1)≠i\/i = -1):∀j,gi l i (j+1) = -1\/gi l i (j+1)∈bI l i:=by
 have hst:gi l i (m+1) = -1\/gi l i (m+1)∈bI l i:=by
  rw[<- h.cur];rcases hs with hs|hs|hs
  .exact .inl hs
  .rw [h.cur] at hs;rcases hc with hc|hc
   .exact absurd hs hc
   .rw [h.cur,hs,hc];exact .inl rfl
  .exact .inr hs
 intro j
 induction j with
 | zero=>
  cases m with
  | zero=>exact hst
  | succ m=>exact .inr (r2 (h.eq 0 (by omega)))
 | succ j ih=>
  rcases ih with ih|ih
  .left;rw[gi,ih,sR]
  .obtain ⟨a,ha⟩:=List.mem_iff_getElem?.1 ih;have ham:a<m:=by rw[<- h.len];exact(US.1 ha).1
   rw[h.eq a ham] at ha
   have e:gi l i (j+1+1)=gi l i (a+1+1):=by
    show fF l (gi l i (j+1))=fF l (gi l i (a+1));rw[Wk ha]
   rw[e];by_cases ham2:a+1<m
   .exact .inr (r2 (h.eq (a+1) ham2))
   .have:a+1=m:=by omega
    rw[this];exact hst
theorem pe{l:List Int}{i:Int}{x:Int}(hx:x∈bI l i):∃j,1<=j/\j<=l.length/\gi l i j=x:=by
 obtain⟨m,p,h,_⟩:=kS l i;obtain⟨a,ha⟩:=List.mem_iff_getElem?.1 hx;have ham:a<m:=by rw[<- h.len];exact(US.1 ha).1
 rw[h.eq a ham] at ha;exact⟨a+1,by omega,by have:=h.room;omega,Wk ha⟩
theorem mQ(l:List Int)(i x:Int)(hx:0<=x)(hne:i≠x):x∈bI l i↔ ∃j,1<=j/\j<=l.length/\gi l i j=x:=by
 refine⟨pe,fun⟨j,h1,h2,h3⟩=>?_⟩;obtain⟨m,p,h,hs⟩:=kS l i;by_cases hc:gi l i (m+1)=i
 .
  have key:∀j,gi l i (j+1)∈bI l i\/gi l i (j+1)=i\/gi l i (j+1) = -1:=by
   intro j
   induction j with
   | zero=>
    cases m with
    | zero=>exact .inr (.inl hc)
    | succ m=>exact .inl (r2 (h.eq 0 (by omega)))
   | succ j ih=>
    rcases ih with ih|ih|ih
    .obtain ⟨a,ha⟩:=List.mem_iff_getElem?.1 ih;have ham:a<m:=by rw[<- h.len];exact(US.1 ha).1
     rw[h.eq a ham] at ha
     have e:gi l i (j+1+1)=gi l i (a+1+1):=by
      show fF l (gi l i (j+1))=fF l (gi l i (a+1));rw[Wk ha]
     rw[e];by_cases ham2:a+1<m
     .exact .inl (r2 (h.eq (a+1) ham2))
     .have:a+1=m:=by omega
      rw[this];exact .inr (.inl hc)
    .have e:gi l i (j+1+1)=gi l i 1:=by
      show fF l (gi l i (j+1))=gi l i 1;rw[ih,mR]
     rw[e]
     cases m with
     | zero=>exact .inr (.inl hc)
     | succ m=>exact .inl (r2 (h.eq 0 (by omega)))
    .right;right;rw[gi,ih,sR]
  have:=key (j-1);rw[show j-1+1=j from by omega,h3] at this;rcases this with this|this|this
  .exact this
  .exact absurd this.symm hne
  .omega
 .have:=wO h hs (.inl hc) (j-1);rw[show j-1+1=j from by omega,h3] at this;rcases this with this|this
  .omega
  .exact this
theorem A1(l:List Int)(i:Int)(hi:da l i):j0 l i↔ ∃j,1<=j/\j<=l.length/\gi l i j=i:=by
 obtain⟨m,p,h,hs⟩:=kS l i;unfold j0;rw[IR h];refine⟨fun hh=>⟨m+1,by omega,?_,hh.2⟩,fun⟨j,h1,h2,h3⟩=>⟨hi,?_⟩⟩
 .have hnd:(i :: bI l i).Nodup:=List.nodup_cons.2 ⟨h.not,h.nodup⟩
  have:=pD l.length _ hnd (fun x hx=>by
   rcases VL.1 hx with rfl|hx
   .exact hi
   .exact h.at_ x hx)
  simp[h.len] at this;omega
 .by_cases hc:gi l i (m+1)=i
  .exact hc
  .have:=wO h hs (.inl hc) (j-1);rw[show j-1+1=j from by omega,h3] at this;rcases this with this|this
   .have:=hi.1;omega
   .exact absurd this h.not
def dW(l:List Int):Int:=(((List.range l.length).find? fun(i:Nat)=>decide (j0 l (i:Int))).map fun(i:Nat)=>(i:Int)).getD (-1)
def dB(l:List Int)(i:Int):List Int:=if da l i then (((List.range l.length).filter fun(k:Nat)=>decide ((k:Int)≠i/\i∈bI l (k:Int))).map fun(k:Nat)=>(k:Int)) else []
def Mp(l:List Int)(a i:Int):Prop:=∃j,1<=j/\j<=l.length/\0<=a/\gi l i j=a
end
section
open Go.ChangeShapes Go.WideShapes Go.ChangeAt Go.RowKit
theorem R5:ownKnob Tryz.prog.godebug=none:=by kernel_rfl
theorem OE:laidOutB Tryz.prog=true:=by kernel_rfl
theorem NN:Tryz.prog.underlying 4=some .bool:=Tryz.underlying4
theorem nk{H:Type}{enc:TypeId×Value->H}{P:Program}(hl:laidOutB P=true){W W':World}(hb:Below W.heap.size W W')(sp:Nat->Bool) :
  ∀{ts:List TypeId} {vs:List Value} {ds:List (DataW H)} {ps:List MemPlace},(ts.all fun t=>P.readableRec t && decide (t<P.types.size))=true ->
   DataW.TrodAll enc P W 0 (fun _=>true) true ts vs ds ps->(∀x∈ps,x.block<W.heap.size)->(∀p∈ps,sp p.block=true)->DataW.TrodAll enc P W' 0 sp true ts vs ds ps
 | [],[],[],_,_,h,_,_=>h
 | t :: ts,v :: vs,d :: ds,ps,ht,h,hlt,hs=>by
  obtain⟨p,q,h1,h2,rfl⟩:=h;simp only[List.all_cons,U1,U7] at ht;refine⟨p,q,WideElems.Trod_stays hl ht.1.1 ht.1.2 h1 (fun x hx=>hb.same (hlt x (U4.2 (.inl hx)))) (fun x hx=>hs x (U4.2 (.inl hx))),?_,rfl⟩;exact nk hl hb sp (by simpa using ht.2) h2 (fun x hx=>hlt x (U4.2 (.inr hx))) (fun x hx=>hs x (U4.2 (.inr hx)))
 | [],[],_ :: _,_,_,h,_,_=>h.elim
 | [],_ :: _,_,_,_,h,_,_=>h.elim
 | _ :: _,[],_,_,_,h,_,_=>h.elim
 | _ :: _,_ :: _,[],_,_,h,_,_=>h.elim
theorem EU{H:Type}{enc:TypeId×Value->H}{f:Func}{s:ChangeSpec}{fid:FuncId}{W:World}{args:Array Value}{ds gs:List (DataW H)}{before:List MemPlace}
  (hts:(f.params.toList.all fun t=>Tryz.prog.readableRec t && decide (t<Tryz.prog.types.size))=true) (hrt:f.resultTypes = #[4]) (hsv:s.vars=[])
  (hW:DataW.Whole enc Tryz.prog f.params.toList s.vars false W args.toList ds gs before)
  (hfn:∀gs',gs'=[]->s.fn H (ds ++ gs')={ results:=[.lit (.bool true)],args:=ds })
  (hc:Calls Tryz.prog fid args W fun e W'=>e=.returned (.bool true)/\Below W.heap.size W W') :
  Calls Tryz.prog fid args W fun e W'=>∃v,e=.returned v/\s.post enc Tryz.prog f false true false false W args v W':=by
 refine hc.mono fun e W' ⟨he,hb⟩=>⟨_,he,?_⟩;have hW':=hW;obtain⟨p,q,hA,hV,rfl,hfz,hnd⟩:=hW;rw[hsv] at hV;obtain⟨rfl,rfl⟩:=trodVars_none hV;have hlt:∀x∈p,x.block<W.heap.size:=fun x hx=>hW'.lt x (U4.2 (.inl hx));have e1:=hfn [] rfl;refine⟨ds,[],p ++ [],[],p,[],hW',?_,?_,?_,hb.frame _,fun h=>by cases h⟩
 .rw [e1,hrt];exact trodAll_mk1 (shut_bool NN true)
 .rw [e1];exact nk OE hb _ hts hA hlt (fun x hx=>by simpa using hlt x hx)
 .rw [e1,hsv];rfl
end
section
def RI(w:World)(v:Value)(l:List Int):Prop:=(aP (eW .i64)).one w (fun b=>b<w.heap.size) v l
theorem RI.below{w w':World}{v:Value}{l:List Int}(h:RI w v l)(hb:Below w.heap.size w w'):RI w' v l:=jw (bV h hb fun b h=>h) fun b h=>UY h hb.size
theorem RI.form{w:World}{v:Value}{l:List Int}(h:RI w v l):∃A c,v=.slice A l.length c/\l.length<=c:=by
 obtain⟨A,c,h1,h2,_⟩:=dR h;exact⟨A,c,h1,h2⟩
theorem RI.at_{w:World}{A:Option Addr}{n c:Nat}{l:List Int}(h:RI w (.slice A n c) l){k:Nat}(hk:k<l.length) :
  ∃b o,A=some ⟨b,o,none⟩/\w.cell? ⟨b,o+k,none⟩=some (.int .i64 (l.getD k 0)) /\ -9223372036854775808<=l.getD k 0/\l.getD k 0<=9223372036854775807:=by
 obtain⟨b,o,rfl,hb,_⟩:=dT h (by omega);have:=EJ h hk;rw[List.getD,p0 hk];exact⟨b,o,rfl,this⟩
theorem RI.own{w:World}{base:Nat}{v:Value}{n:Nat}{l:List Int}(h:w.ownsRow base 3 1 v n (l.map (Value.int .i64)))(hx:∀x∈l,-9223372036854775808<=x/\x<=9223372036854775807):RI w v l:=
 jw (BL (r:=eW .i64) _ h rfl fun a ha=>⟨rfl,vj (hx a ha).1 (hx a ha).2⟩) fun b h=>h.2
theorem D6:(Tryz.prog.info? 3).map (fun i=>(i.zero,i.size,i.bytes))=some (some (.int .i64 0),1,8):=by kernel_rfl
theorem Er(w:World)(n:Int)(t:TypeId):∀j u,[Value.int .i64 n][j]? = some u->(w.alloc (.cells #[.int .i64 n] t)).cell? ((⟨w.heap.size,0,none⟩:Addr).add j)=some u:=mW w [.int .i64 n] t
theorem D9(n:Int):∀u∈[Value.int .i64 n],u.oneCell'=true:=by intro u hu;simp at hu;subst hu;rfl
theorem E8(l:List Int)(v:Value)(x:Int)(w:World)(hl:l.length<=4294967296)(hv:RI w v l) :
  Calls Tryz.prog 177 #[v,.int .i64 x] w fun e w'=>e=.returned (.int .i64 (((l.findIdx? (· == x)).map fun(n:Nat)=>(n:Int)).getD (-1)))/\w=w':=by
 obtain⟨A,c,rfl,hc⟩:=hv.form
 go_enter Tryz.func177,Tryz.ntmps177
 go_wp2_with fail
 go_loop [8] (fun i=>∃k:Nat,k<=l.length/\i=.int .i64 (k:Int)/\∀y∈l.take k,¬y=x) (fun i=>l.length-(intOf i).toNat)
 case atStart=>exact⟨0,UR _,rfl,fun y hy=>by simp at hy⟩
 case round=>
  obtain⟨k,hk,rfl,hno⟩:=hrel;have Hno:=ar hno;clear hno;by_cases hlt:k<l.length
  .obtain ⟨b,o,rfl,hcell,hb1,hb2⟩:=hv.at_ hlt;have htk:=ar (U0 hlt);have hgk:l.getD k 0=l[k]:=by rw[List.getD,p0 hlt];rfl
   rw[hgk] at hcell
   have hfi:(∀y∈l.take k,¬y=x)->l[k]=x->l.findIdx? (· == x)=some k:=by
    intro h1 h2;rw[Wn];refine⟨hlt,by simpa using h2,fun j hj=>?_⟩;have:=h1 l[j] (WL.2 ⟨j,by omega,rfl⟩);simpa using this
   have Hfi:=ar hfi;clear hgk hfi;generalize l[k]=y at *;by_cases hy:y=x
   .have h1:(x == y)=true:=(by simp[hy]);have HE:=ar (Hfi.out Hno.out hy);clear hy
    go_wp2_with fail
    go_ret
    rw[HE.out];exact⟨rfl,rfl⟩
   .have h1:(x == y)=false:=by simp;exact fun e=>hy e.symm
    go_wp2_with fail
    go_round
    case rel=>
     refine⟨k+1,by omega,by go_num,fun z hz=>?_⟩;rw[htk.out] at hz;rcases U4.1 hz with hz|hz
     .exact Hno.out z hz
     .simp at hz;subst hz;exact hy
    case measure=>simp[intOf];omega
  .obtain rfl:k=l.length:=by omega
   go_wp2_with fail
   go_ret
   have:l.findIdx? (· == x)=none:=by
    rw[WM];intro y hy;have:=Hno.out y (by rwa [U6]);simpa using this
   rw[this];exact⟨rfl,rfl⟩
theorem lf(l:List Int)(v:Value)(x:Int)(w:World)(hl:l.length<=4294967296)(hv:RI w v l) :
  Calls Tryz.prog 142 #[v,.int .i64 x] w fun e w'=>e=.returned (.bool (decide (x∈l)))/\w=w':=by
 have hcase:(∃n:Nat,l.findIdx? (· == x)=some n/\x∈l)\/(l.findIdx? (· == x)=none/\x∉l):=by
  cases h:l.findIdx? (· == x) with
  | none=>
   right;rw[WM] at h;exact⟨rfl,fun hx=>by have:=h x hx;simp at this⟩
  | some n=>
   left;rw[Wn] at h;obtain⟨h1,h2,_⟩:=h;simp at h2;exact⟨n,rfl,by rw[<- h2];exact UQ _⟩
 have hix:=E8 l v x w hl hv;rcases hcase with ⟨n,h1,h2⟩|⟨h1,h2⟩
 .rw [h1] at hix;have Hix:=ar hix;clear hix h1
  go_enter Tryz.func142,Tryz.ntmps142
  go_wp2_with (go_at_call 177;refine Hix.out.mono ?_;rintro e w' ⟨rfl,rfl⟩;simp only[Vz,Vi])
  go_ret
  exact⟨by simp[h2],rfl⟩
 .rw [h1] at hix;have Hix:=ar hix;clear hix h1
  go_enter Tryz.func142,Tryz.ntmps142
  go_wp2_with (go_at_call 177;refine Hix.out.mono ?_;rintro e w' ⟨rfl,rfl⟩;simp only[Option.map_none,Option.getD_none])
  go_ret
  exact⟨by simp[h2],rfl⟩
def Qa(l:List Int)(i:Int)(w:World)(e:Ending)(w':World):Prop:=(fF l i = -1/\e=.returned (.tuple #[.int .i64 0,.bool false])\/da l (fF l i)/\e=.returned (.tuple #[.int .i64 (fF l i),.bool true]))/\w=w'
theorem CR(l:List Int)(v:Value)(i:Int)(w:World)(hl:l.length<=4294967296)(hv:RI w v l) :
  Calls Tryz.prog 103 #[v,.int .i64 i] w (Qa l i w):=by
 obtain⟨A,c,rfl,hc⟩:=hv.form;by_cases h1:da l i
 .obtain ⟨h1a,h1b⟩:=h1;obtain⟨k,rfl⟩:=WZ h1a;have hk:k<l.length:=by omega
  obtain⟨b,o,rfl,hcell,hb1,hb2⟩:=hv.at_ hk;have hp:fF l (k:Int)=pS l (l.getD k 0):=by unfold fF;rw[UZ ⟨h1a,h1b⟩];simp
  have hn:=fv l (l.getD k 0);rw[<- hp] at hn;have Hn:=ar hn;clear hn hp;generalize l.getD k 0=y at *;by_cases h2:0<=y
  .by_cases h3:y<(l.length:Int)
   .have e:fF l k=y:=by
     rcases Hn.out with ⟨_,e⟩|⟨h,_⟩
     .exact e
     .exact absurd ⟨h2,h3⟩ h
    have E:=ar e;clear e
    go_enter Tryz.func103,Tryz.ntmps103
    go_wp2_with fail
    go_ret2
    refine⟨.inr ⟨?_,?_⟩,rfl⟩
    .rw [E.out];exact⟨h2,h3⟩
    .rw [E.out];rfl
   .have e:fF l k = -1:=by
     rcases Hn.out with ⟨h,_⟩|⟨_,e⟩
     .exact absurd h.2 h3
     .exact e
    have E:=ar e;clear e
    go_enter Tryz.func103,Tryz.ntmps103
    go_wp2_with fail
    go_ret2
    exact⟨.inl ⟨E.out,rfl⟩,rfl⟩
  .have e:fF l k = -1:=by
    rcases Hn.out with ⟨h,_⟩|⟨_,e⟩
    .exact absurd h.1 h2
    .exact e
   have E:=ar e;clear e
   go_enter Tryz.func103,Tryz.ntmps103
   go_wp2_with fail
   go_ret2
   exact⟨.inl ⟨E.out,rfl⟩,rfl⟩
 .have e:fF l i = -1:=by unfold fF;rw[UX h1]
  have E:=ar e;clear e;by_cases h2:0<=i
  .have h3:(l.length:Int)<=i:=by
    unfold da at h1;omega
   go_enter Tryz.func103,Tryz.ntmps103
   go_wp2_with fail
   go_ret2
   exact⟨.inl ⟨E.out,rfl⟩,rfl⟩
  .go_enter Tryz.func103,Tryz.ntmps103
   go_wp2_with fail
   go_ret2
   exact⟨.inl ⟨E.out,rfl⟩,rfl⟩
def tg(L:List Int)(w:World)(e:Ending)(w':World):Prop:=∃v,e=.returned v/\w'.ownsRow w.heap.size 3 1 v L.length (L.map (Value.int .i64))/\Below w.heap.size w w'
theorem PN(l:List Int)(v:Value)(i:Int)(w:World)(hl:l.length<=4294967296)(hv:RI w v l)(h:fF l i = -1) :
  Calls Tryz.prog 103 #[v,.int .i64 i] w fun e w'=>e=.returned (.tuple #[.int .i64 0,.bool false])/\w=w':=
 (CR l v i w hl hv).mono fun e w' ⟨hh,hw⟩=>by
  rcases hh with ⟨_,he⟩|⟨hat,_⟩
  .exact ⟨he,hw⟩
  .rw [h] at hat;exact absurd hat.1 (by omega)
theorem Dz(l:List Int)(v:Value)(i y:Int)(w:World)(hl:l.length<=4294967296)(hv:RI w v l)(h:fF l i=y)(hy:da l y) :
  Calls Tryz.prog 103 #[v,.int .i64 i] w fun e w'=>e=.returned (.tuple #[.int .i64 y,.bool true])/\w=w':=
 (CR l v i w hl hv).mono fun e w' ⟨hh,hw⟩=>by
  rcases hh with ⟨hp,_⟩|⟨hat,he⟩
  .rw [h] at hp;exact absurd hy.1 (by omega)
  .rw [h] at he;exact⟨he,hw⟩
def TD:Value->Nat | .slice _ n _=>n|_=>0
theorem sr{P:Program}{a:Act}{w:World}{Q:Exit->Act->World->Prop}{c X:Code}(l:Nat)(J:Act->World->Prop)(μ:Act->World->Nat)(hf:findLabel c l=some (Code.skip.seq X))
  (pass:∀a w,J a w->X.wp P (Exit.jump l (fun a' w'=>J a' w' /\ μ a' w' < μ a w) Q) a w)
  (first:(∀a w,J a w->X.wp P (Exit.jump l J Q) a w)->c.wp P (Exit.jump l J Q) a w):(Code.scope c).wp P Q a w:=by
 refine wp_scope_jumps l J μ hf (first fun a w h=>wp_mono (pass a w h) ?_) (fun a w h=>?_)
 .intro e a' w' hq
  cases e with
  | goto l'=>exact⟨hq.1,hq.2.1⟩
  | normal=>exact hq
  | exit id=>exact hq
  | ret=>exact hq
  | panic ch=>exact hq
  | outgrown=>exact hq
 .exact wp_seq (wp_skip (pass a w h))
theorem pU(l:List Int)(v:Value)(i:Int)(w:World)(hl:l.length<=1073741824)(hv:RI w v l) :
  Calls Tryz.prog 102 #[v,.int .i64 i] w (tg (bI l i) w):=by
 obtain⟨i0,hi0,hz0,hz1,hz2⟩:=info_parts D6;have hl:l.length<=4294967296:=by omega
 obtain⟨A,c,rfl,hc⟩:=hv.form
 go_enter Tryz.func102,Tryz.ntmps102
 go_wp2_with fail
 refine sr 0 (fun a' w'=>∃(m:Nat)(q:Int)(out:List Int)(v':Value)(u7 u8 u9 u10 u11 u12 u13 u14 u15 u16 u17 u18 u19 u20 u21 u22 u23 u24 u25 u26 u27 u28 u29 u30 u31 u32 u33:Value),
   a'={ tmps:=#[.slice A l.length c,.int .i64 i,undef,undef,.slice none 0 0,v',.int .i64 q,u7,u8,u9,u10,u11,u12,u13,u14,u15,u16,u17,u18,u19,u20,u21,u22,u23,u24,u25,u26,u27,u28,u29,u30,u31,u32,u33],defers:=[] } /\
   mo l i m q out/\w'.ownsRow w.heap.size 3 1 v' out.length (out.map (Value.int .i64))/\Below w.heap.size w w') (fun a' w'=>l.length+1-TD (a'.tmps.getD 5 undef)) (by rfl) ?_ ?_
 .rintro a' w1 ⟨m,q,out,v',u7,u8,u9,u10,u11,u12,u13,u14,u15,u16,u17,u18,u19,u20,u21,u22,u23,u24,u25,u26,u27,u28,u29,u30,u31,u32,u33,rfl,hup,hown,hb⟩;have hat:=hup.at_;have hroom:=hup.room;have hlen:=hup.len;have hri:RI w1 v' out:=RI.own hown (fun x hx=>by have:=hat x hx;unfold da at this;omega);have hl1:out.length<=4294967296:=by omega
  have hv1:=hv.below hb;obtain⟨A',c',rfl,hc'⟩:=hri.form;have Hstop:=ar (hup.stop);have Hnext:=ar (hup.next);have Hlen:=ar hlen;have Hat:=ar hat
  clear hat hlen;rcases Bv l q with hp|hp
  .have hin:=PN l _ q w1 hl hv1 hp;have Hin:=ar hin;have E:=ar (Hstop.out (.inl hp));clear hin hp
   go_wp2_with (go_at_call 103;refine Hin.out.mono ?_;rintro e w2 ⟨rfl,rfl⟩)
   simp only[Exit.jump];go_ret
   rw[<- E.out];exact⟨_,rfl,hown,hb⟩
  .have hin:=Dz l _ q (fF l q) w1 hl hv1 rfl hp;have hpr:0<=fF l q/\fF l q<(l.length:Int):=hp;have Hin:=ar hin;have hs1:fF l q=i->out=bI l i:=fun h=>Hstop.out (.inr (.inl h));have hs2:fF l q∈out->out=bI l i:=fun h=>Hstop.out (.inr (.inr h))
   have hs3:fF l q≠i->fF l q∉out->mo l i (m+1) (fF l q) (out ++ [fF l q])/\m+1<=l.length:=fun h1 h2=>Hnext.out (fun hh=>by
    rcases hh with hh|hh|hh
    .have:=hp.1;omega
    .exact h1 hh
    .exact h2 hh)
   have Hs1:=ar hs1;have Hs2:=ar hs2;have Hs3:=ar hs3;clear hin hp hs1 hs2 hs3 Hstop Hnext;generalize fF l q=y at *
   cases h1:(y == i) with
   | true=>
    have E:=ar (Hs1.out (by simpa using h1))
    go_wp2_with (go_at_call 103;refine Hin.out.mono ?_;rintro e w2 ⟨rfl,rfl⟩)
    simp only[Exit.jump];go_ret
    rw[<- E.out];exact⟨_,rfl,hown,hb⟩
   | false=>
    have hne:y≠i:=(by simpa using h1);have hcn:=lf out _ y w1 hl1 hri;by_cases h2:y∈out
    .rw [show decide (y∈out)=true from Vb h2] at hcn;have Hcn:=ar hcn;have E:=ar (Hs2.out h2);clear hcn h2 hne
     go_wp2_with (first
      | (go_at_call 103;refine Hin.out.mono ?_;rintro e w2 ⟨rfl,rfl⟩)
      | (go_at_call 142;refine Hcn.out.mono ?_;rintro e w2 ⟨rfl,rfl⟩))
     simp only[Exit.jump];go_ret
     rw[<- E.out];exact⟨_,rfl,hown,hb⟩
    .rw [show decide (y∈out)=false from U5 h2] at hcn;have Hcn:=ar hcn;have E:=ar (Hs3.out hne h2);clear hcn h2 hne;have hB:=hb.size
     go_wp2_with (first
      | (go_at_call 103;refine Hin.out.mono ?_;rintro e w2 ⟨rfl,rfl⟩)
      | (go_at_call 142;refine Hcn.out.mono ?_;rintro e w2 ⟨rfl,rfl⟩)
      | (at_builtin;refine wpList_append_own _ rfl (.tmp 29) (.tmp 31) 52 rfl w.heap.size 3 i0 _ 1 8 Tryz.underlying52 hi0 hz0 hz1 hz2 rfl (by omega) _ out.length _ rfl (hown.alloc _) ⟨w1.heap.size,0,none⟩ 1 1 [.int .i64 y] rfl rfl (Er _ _ _) (D9 _) (by unfold maxLen;omega) (by omega) (by simp;omega) ?_;intro v2 w2 hown2 hg2 _))
     go_step3
     obtain⟨e1,e2⟩:=E.out;have hb2:=(hb.alloc hb.size (.cells #[.int .i64 y] 3)).grown hg2 (by simp;omega) (fun g hg=>(hown.lt g hg).1);refine⟨rfl,⟨m+1,y,out ++ [y],v2,_,_,_,_,_,_,_,_,_,_,_,_,_,_,_,_,_,_,_,_,_,_,_,_,_,_,_,rfl,e1,?_,hb2⟩,?_⟩
     .have:=hown2;rw[UW,Vc];exact this
     .obtain ⟨A2,c2,rfl,_⟩:=gy hown2;show l.length+1-(out.length+1)<l.length+1-out.length;have:=Hlen.out;omega
 .intro hpass
  go_wp2
  go_step3
  rename_i hK;exact hK _ _ (hpass _ _ ⟨0,i,[],_,_,_,_,_,_,_,_,_,_,_,_,_,_,_,_,_,_,_,_,_,_,_,_,_,_,_,_,rfl,mo.start l i,World.ownsRow_nil _ _ _ _,Below.refl _ _⟩)
end
section
theorem mL{w:World}{S:Nat->Prop}{v:Value}{l:List Int}(h:RT w S v (sI l))(hS:FJ w S)(hl:∀x∈l,aA x):RI w v l:=by
 obtain⟨A,cap,rfl,hc,hm,_,hA⟩:=h.sl_inv;refine⟨A,cap,by simp,by simpa using hc,hm,fun h0=>?_⟩;obtain⟨b,o,rfl,hb,U,hcell,hr,_⟩:=hA (by simpa using h0);refine⟨b,o,rfl,hS b hb,fun i hi=>⟨[.int .i64 l[i]],fun j u hu=>?_,rfl,?_⟩⟩
 .have h1:(l.map fun n=>[eI n])[i]? = some [eI l[i]]:=by simp[hi]
  have h2:=hcell i 0 _ _ h1 rfl;have h3:=y4 (hr i 0 _ _ h1 rfl)
  cases j with
  | zero=>
   simp at hu;subst hu;rw[h3] at h2;simpa[eW] using h2
  | succ j=>simp at hu
 .have:=hl _ (UQ hi);exact vj this.1 this.2
theorem oH{f:FuncId}{args:List AV}{l:List Int}(he:fy Tryz.prog f)
  (h:∀(S:Nat->Prop)(w:World)(vs:Array Value),FJ w S->vs.size=args.length->(∀(j:Nat)(v:Value)(av:AV),vs[j]? = some v->args[j]? = some av->RT w S v av)->Calls Tryz.prog f vs w (tg l w)):am Tryz.prog f args (gl 3 1 (l.map fun n=>[eI n])):=
 ⟨he,fun S w vs h1 h2 h3=>(h S w vs h1 h2 h3).mono fun e w' ⟨v,h4,h5,h6⟩=>by
  have hget:∀id o,(gl 3 1 (l.map fun n=>[eI n])).tab.get id=some o->id=0/\o=.row 3 1 (l.map fun n=>[eI n]):=fun id o ho=>by
   simp only[gl,ae.gc] at ho;split at ho
   .cases ho;exact⟨by assumption,rfl⟩
   .cases ho
  refine⟨v,fun _=>v,_,rfl,cW ..,h4,⟨jo h6,fun id o ho=>?_,fun id id' o o' g h7 h8 _ _=>?_,fun b hb=>hb.elim⟩,.osl _ _ fun sz u hk=>?_⟩
  .obtain ⟨_,rfl⟩:=hget id o ho;refine⟨fun row hr=>?_,_,by rw[Vd];exact rG h5,fun x hx=>?_,fun i j row av ha hb=>?_⟩
   .obtain ⟨n,_,rfl⟩:=U3.1 hr;rfl
   .obtain ⟨n,_,rfl⟩:=U3.1 hx;rfl
   .rw [UV] at ha
    cases hi:l[i]? with
    | none=>simp[hi] at ha
    | some n=>
     simp[hi] at ha;subst ha
     cases j with
     | zero=>
      simp at hb;subst hb;exact⟨.int .i64 n,by simp[hi],.c _⟩
     | succ j=>simp at hb
  .rw [(hget id o h7).1,(hget id' o' h8).1]
  .unfold Kx at hk
   cases ho:(gl 3 1 (l.map fun n=>[eI n])).tab.get 0 with
   | none=>simp[ho] at hk
   | some o=>simp[ho] at hk;exact hk.2⟩
theorem kR{vs:Array Value}(h:vs.size=2):∃a b,vs = #[a,b]:=⟨vs[0],vs[1],by apply XB (by simpa using h);intro i h1 h2;simp at h2;match i with|0=>rfl|1=>rfl⟩
theorem aF{r av:AV}{st:aj}(h:r.ren []=av):fp ⟨r,[],0⟩ st av:=⟨[],List.nodup_nil,h,trivial⟩
theorem jM{l:List (Bool×Int)}:∀row∈l.map gk,∀av∈row,av.plain:=fun row hr av ha=>by
 obtain⟨n,_,rfl⟩:=U3.1 hr;simp at ha;rcases ha with rfl|rfl<;>trivial
theorem Iv : (Tryz.prog.fieldsOf 114).toList.map (fun f => (f.name, f.type, f.offset)) = [("Mile", 4, 0), ("N", 3, 1)] := by kernel_rfl
theorem u4(op:BinOp)(hop:op=.eql\/op=.neq)(a b:Bool×Int):tU Tryz.prog op 114 (.agg #[.bool a.1,.int .i64 a.2]) (.agg #[.bool b.1,.int .i64 b.2]) (.bool (if op matches .eql then (a.1 == b.1 && a.2 == b.2) else !(a.1 == b.1 && a.2 == b.2))):=by
 have ht:=Iv
 obtain⟨f,g,hfs⟩:∃f g,(Tryz.prog.fieldsOf 114).toList=[f,g]:=by
  generalize (Tryz.prog.fieldsOf 114).toList=l at ht ⊢
  cases l with
  | nil=>simp at ht
  | cons f l=>cases l with
   | nil=>simp at ht
   | cons g l=>cases l with
    | nil=>exact⟨f,g,rfl⟩
    | cons h l=>simp at ht
 rw[hfs] at ht;simp only[VE,Vn,List.cons.injEq,Prod.mk.injEq,and_true] at ht;obtain⟨⟨h1,h2,h3⟩,h4,h5,h6⟩:=ht;refine vz [(.bool a.1,.bool b.1),(.int .i64 a.2,.int .i64 b.2)] (by kernel_rfl) (by kernel_rfl) (by kernel_rfl) (by rw[hfs];rfl) (fun k f' p hk hp=>?_) (by simp[mF,tF]) hop;rw[hfs] at hk
 match k,hk,hp with
 | 0,hk,hp=>
  cases hk;cases hp;refine⟨by rw[h1];decide,?_,by rw[h3];rfl,by rw[h3];rfl⟩;rw[h2]
  kernel_rfl
 | 1,hk,hp=>
  cases hk;cases hp;refine⟨by rw[h4];decide,?_,by rw[h6];rfl,by rw[h6];rfl⟩;rw[h5]
  kernel_rfl
 | k+2,hk,hp=>simp at hk
end
section
theorem lR(op:Int):be op = -1\/be op=0\/be op=1\/be op=2:=by
 unfold be;split
 .exact .inr (.inl rfl)
 .split
  .exact .inr (.inr (.inl rfl))
  .split
   .exact .inr (.inr (.inr rfl))
   .exact .inl rfl
theorem mt{d:Nat}{op:Int}{d':Nat}:iY d op=some d' ↔0<=be op/\be op<=d/\(d':Int)=d+1-be op:=by
 unfold iY;rcases lR op with h|h|h|h<;>simp only[h]
 .simp
 .simp;omega
 .by_cases h1:1<=d
  .simp [h1];omega
  .simp [h1];omega
 .by_cases h1:2<=d
  .simp [h1];omega
  .simp [h1];omega
theorem QG(a b:List Int):∀d,dt (a ++ b) d=(dt a d).bind (dt b):=by
 induction a with
 | nil=>intro d;rfl
 | cons x a ih=>intro d;rw[Wc,dt,dt];cases iY d x<;>simp[ih]
theorem xZ(ops:List Int){i:Nat}(h:i<ops.length):dt (ops.take (i+1)) 0=(dt (ops.take i) 0).bind fun d=>iY d ops[i]:=by
 rw[Xj,p0 h,QG]
 congr 1
 funext d
 simp[dt];cases iY d ops[i]<;>rfl
theorem xA{ops:List Int}{i d':Nat}(h:i<ops.length)(hr:dt (ops.take (i+1)) 0=some d'):∃d,dt (ops.take i) 0=some d/\0<=be ops[i]/\be ops[i]<=d/\(d':Int)=d+1-be ops[i]:=by
 rw[xZ ops h] at hr
 cases hd:dt (ops.take i) 0 with
 | none=>simp[hd] at hr
 | some d=>
  simp[hd] at hr;exact⟨d,rfl,mt.1 hr⟩
def ku(ops:List Int):Nat->Int->Int
 | 0,_=>-1
 | i+1,want=>if be (ops.getD i 0)<0 then -1 else if want+(be (ops.getD i 0)-1)=0 then (i:Int) else ku ops i (want+(be (ops.getD i 0)-1))
theorem wI{ops:List Int}{i:Nat}(h:i<ops.length):ops.getD i 0=ops[i]:=by simp[h]
theorem Eb{ops:List Int}{d e:Nat}(hd:1<=d):∀(i:Nat)(want:Int)(di:Nat),i<=ops.length->dt (ops.take i) 0=some di->(di:Int)=d-1+want->1<=want->(∀j,i<=j->j<=e->∃dj,dt (ops.take j) 0=some dj/\d<=dj) ->
  ∃b:Nat,b<i/\ku ops i want=b/\dt (ops.take b) 0=some (d-1)/\∀j,b<j->j<=e->∃dj,dt (ops.take j) 0=some dj/\d<=dj
 | 0,want,di,_,hr,hdi,hw,_=>by
  simp[dt] at hr;omega
 | i+1,want,di,hi,hr,hdi,hw,hj=>by
  obtain⟨d0,h0,h1,h2,h3⟩:=xA (by omega) hr;rw[ku,wI (by omega:i<ops.length),UX (by omega)];by_cases hz:want+(be ops[i]-1)=0
  .rw [UZ hz];refine⟨i,by omega,rfl,by rw[h0];congr 1;omega,fun j h4 h5=>hj j (by omega) h5⟩
  .rw [UX hz]
   obtain⟨b,h4,h5,h6,h7⟩:=Eb (e:=e) hd i (want+(be ops[i]-1)) d0 (by omega) h0 (by omega) (by omega) fun j h4 h5=>by
    rcases U9 i j with h6|h6
    .exact hj j (by omega) h5
    .obtain rfl:i=j:=by omega
     exact⟨d0,h0,by omega⟩
   exact⟨b,by omega,h5,h6,h7⟩
theorem I0{ops:List Int}{i d:Nat}(h:i<ops.length)(hr:dt (ops.take (i+1)) 0=some d):1<=d:=by
 obtain⟨d0,_,h1,h2,h3⟩:=xA h hr;omega
theorem LH{ops:List Int}{e d:Nat}(he:e<ops.length)(hr:dt (ops.take (e+1)) 0=some d) :
  ∃b:Nat,b<=e/\ku ops (e+1) 1=b/\dt (ops.take b) 0=some (d-1)/\∀j,b<j->j<=e+1->∃dj,dt (ops.take j) 0=some dj/\d<=dj:=by
 have hd:=I0 he hr
 obtain⟨b,h1,h2⟩:=Eb (e:=e+1) hd (e+1) 1 d (by omega) hr (by omega) (by omega) fun j h1 h2=>by
  obtain rfl:j=e+1:=by omega
  exact⟨d,hr,UU _⟩
 exact⟨b,by omega,h2⟩
theorem ym(ops:List Int):∀(i:Nat)(want:Int),i<=ops.length->1<=want->ku ops i want=0->dt (ops.take i) 0=some want.toNat
 | 0,want,_,_,h=>by simp[ku] at h
 | i+1,want,hi,hw,h=>by
  have hlt:i<ops.length:=by omega
  rw[ku,wI hlt] at h;split at h
  .omega
  .rename_i h1;rw[xZ ops hlt];split at h
   .rename_i h2;obtain rfl:i=0:=by omega
    have h3:be ops[0]=0/\want=1:=by
     rcases lR ops[0] with h|h|h|h<;>omega
    rw[h3.2];simp only[Va,dt,W8];rw[mt];omega
   .rename_i h2;rw[ym ops i _ (by omega) (by omega) h,W8,mt];omega
theorem Iz{ops:List Int}(h0:0<ops.length):ku ops ops.length 1=0↔dt ops 0=some 1:=by
 constructor
 .intro h;have:=ym ops ops.length 1 (UU _) (by omega) h
  rwa [U6] at this
 .intro h;have e1:ops.length-1+1=ops.length:=by omega
  obtain⟨b,h1,h2,h3,h4⟩:=LH (ops:=ops) (e:=ops.length-1) (d:=1) (by omega) (by rw[e1,U6];exact h);rw[e1] at h2;rw[h2]
  cases b with
  | zero=>rfl
  | succ b=>
   have:=I0 (by omega) h3;omega
section
variable {cm:aw->Option Int} {o d:Int}
theorem PR(a b:List aw):∀r,cO cm o d (a ++ b) r=(cO cm o d a r).bind (cO cm o d b):=by
 induction a with
 | nil=>intro r;rfl
 | cons x a ih=>intro r;rw[Wc,cO,cO];cases cD cm o d x r<;>simp[ih]
theorem Em(l:List aw){i:Nat}(h:i<l.length):cO cm o d (l.take (i+1)) []=(cO cm o d (l.take i) []).bind (cD cm o d l[i]):=by
 rw[Xj,p0 h,PR]
 congr 1
 funext r
 simp[cO];cases cD cm o d l[i] r<;>rfl
theorem rU{x:aw}{r r':List Bool}(h:cD cm o d x r=some r'):∃k:Nat,be x.op=k/\k<=r.length/\∃v,r'=v :: r.drop k:=by
 unfold cD at h;split at h
 .rename_i h1;cases h;exact⟨0,by unfold be;rw[UZ (by omega)];rfl,by omega,_,rfl⟩
 .split at h
  .rename_i h1;split at h
   .cases h;exact⟨0,by unfold be;rw[UZ (by omega)];rfl,by omega,_,rfl⟩
   .cases h
  .split at h
   .rename_i h1;cases h;exact⟨0,by unfold be;rw[UZ (by omega)];rfl,by omega,_,rfl⟩
   .split at h
    .rename_i h1;cases h;exact⟨0,by unfold be;rw[UZ (by omega)];rfl,by omega,_,rfl⟩
    .split at h
     .rename_i h1;split at h
      .cases h;exact⟨1,by unfold be;rw[UX (by omega),UZ (by omega)];rfl,by simp,_,rfl⟩
      .cases h
     .split at h
      .rename_i h1;split at h
       .cases h;exact⟨2,by unfold be;rw[UX (by omega),UX (by omega),UZ (by omega)];rfl,by simp,_,rfl⟩
       .cases h
      .cases h
theorem mS{l:List aw}{i:Nat}{r':List Bool}(h:i<l.length)(hr:cO cm o d (l.take (i+1)) []=some r'):∃r,cO cm o d (l.take i) []=some r/\cD cm o d l[i] r=some r':=by
 rw[Em l h] at hr
 cases hd:cO cm o d (l.take i) [] with
 | none=>simp[hd] at hr
 | some r=>
  simp[hd] at hr;exact⟨r,rfl,hr⟩
theorem tH{l:List aw}:∀{i:Nat} {r:List Bool},i<=l.length->cO cm o d (l.take i) []=some r->dt ((l.map aw.op).take i) 0=some r.length
 | 0,r,_,h=>by
  simp[cO] at h;subst h;simp[dt]
 | i+1,r,hi,h=>by
  obtain⟨r0,h1,h2⟩:=mS (by omega) h;have h3:=tH (by omega) h1;obtain⟨k,h4,h5,v,rfl⟩:=rU h2;rw[xZ _ (by simp;omega),h3,W8,mt];simp[h4];omega
theorem JZ{l:List aw}{e:Nat}{v:Bool}{r:List Bool}(he:e<l.length)(h:cO cm o d (l.take (e+1)) []=some (v :: r)) :
  ∃b:Nat,b<=e/\ku (l.map aw.op) (e+1) 1=b/\cO cm o d (l.take b) []=some r:=by
 have hrow:=tH (by omega) h;obtain⟨b,h1,h2,h3,h4⟩:=LH (by simpa using he) hrow;refine⟨b,h1,h2,?_⟩
 have down:∀k j,j+k=e+1->∃q,cO cm o d (l.take j) []=some q:=by
  intro k
  induction k with
  | zero=>
   intro j hj;obtain rfl:j=e+1:=by omega
   exact⟨_,h⟩
  | succ k ih=>
   intro j hj;obtain⟨q,hq⟩:=ih (j+1) (by omega);obtain⟨q0,hq0,_⟩:=mS (by omega) hq;exact⟨q0,hq0⟩
 obtain⟨q,hq⟩:=down (e+1-b) b (by omega);have hql:=tH (by omega) hq;rw[h3] at hql;have hql:r.length=q.length:=by simpa using hql
 have up:∀k,b+k<=e+1->∃t,cO cm o d (l.take (b+k)) []=some (t ++ q):=by
  intro k
  induction k with
  | zero=>exact fun _=>⟨[],hq⟩
  | succ k ih=>
   intro hk;obtain⟨t,ht⟩:=ih (by omega);obtain⟨r1,hr1⟩:=down (e+1-(b+k+1)) (b+k+1) (by omega);obtain⟨r0,h5,h6⟩:=mS (by omega) hr1;rw[ht] at h5;cases h5;obtain⟨c,h7,h8,v',rfl⟩:=rU h6;obtain⟨dj,h9,h10⟩:=h4 (b+k+1) (by omega) (by omega);have h11:=tH (by omega) hr1;rw[h9] at h11;have h11:dj=(t ++ q).length-c+1:=(by simpa using h11);rw[UW] at h11 h8;simp only[Vl] at h10;refine⟨v' :: t.drop c,?_⟩;rw[show b+(k+1)=b+k+1 by omega,hr1,List.drop_append_of_le_length (by omega)];rfl
 obtain⟨t,ht⟩:=up (e+1-b) (by omega);rw[show b+(e+1-b)=e+1 by omega,h] at ht;have ht:=Wk ht
 have htl:t.length=1:=by
  have:=congrArg List.length ht;simp at this;omega
 obtain⟨v',rfl⟩:∃v',t=[v']:=by
  match t,htl with
  | [v'],_=>exact⟨v',rfl⟩
 rw[hq];simp at ht;rw[ht.2]
end
def jr(vals:List Int)(attrs:Bool)(x:aw):Bool:=
 !(decide (18<x.op) || (decide (10<x.op) && decide (x.op<15)) || (attrs && decide (3<=x.op) && decide (x.op<=8) && (!(decide (-1<=x.la) && decide (x.la<vals.length)) || !(decide (-1<=x.ra) && decide (x.ra<vals.length)))))
theorem AQ(vals:List Int)(a n:Int):(fT vals a n).isSome=(decide (-1<=a) && decide (a<vals.length)):=by
 unfold fT;by_cases h1:a = -1
 .subst h1;simp;omega
 .rw [UX h1];by_cases h2:a<0
  .rw [UZ h2];simp;omega
  .rw [UX h2];rw[Wl];simp;omega
theorem AK(vals:List Int)(x:aw):(p7 vals x).isSome=((decide (-1<=x.la) && decide (x.la<vals.length)) && (decide (-1<=x.ra) && decide (x.ra<vals.length))):=by
 rw[<- AQ vals x.la x.ln,<- AQ vals x.ra x.rn];unfold p7;cases fT vals x.la x.ln<;>cases fT vals x.ra x.rn<;>rfl
theorem Ou{s:St}{x:aw}{r:List Bool}(h:jr s.vals true x=true)(h0:0<=be x.op)(h1:be x.op<=r.length):∃r',cD (p7 s.vals) s.opn s.don x r=some r':=by
 have hc:=AK s.vals x;unfold jr at h;simp only[Bool.not_eq_true',Bool.or_eq_false_iff,Vy,Vf,VC,Bool.not_eq_false'] at h;unfold cD;split
 .exact ⟨_,rfl⟩
 .split
  .rename_i h2 h3
   have:(p7 s.vals x).isSome=true:=by
    rw[hc,U1];rcases h.2 with h4|h4
    .rcases h4 with h4|h4<;>simp at h4<;>omega
    .exact h4
   obtain⟨c,hc⟩:=VY.1 this;rw[hc];exact⟨_,rfl⟩
  .split
   .exact ⟨_,rfl⟩
   .split
    .exact ⟨_,rfl⟩
    .split
     .rename_i h6;have:be x.op=1:=by unfold be;rw[UX (by omega),UZ (by omega)]
      cases r with
      | nil=>simp at h1;omega
      | cons a r=>exact⟨_,rfl⟩
     .split
      .rename_i h6;have:be x.op=2:=by unfold be;rw[UX (by omega),UX (by omega),UZ (by omega)]
       match r with
       | []=>simp at h1;omega
       | [a]=>simp at h1;omega
       | b :: a :: r=>exact⟨_,rfl⟩
      .rename_i h2 h3 h4 h5 h6 h7;exfalso;have h8:=h.1;unfold be at h0;split at h0
       .rename_i h9;rcases h8 with ⟨h10,h11⟩;rcases h11 with h11|h11<;>omega
       .split at h0
        .omega
        .split at h0<;>omega
theorem ID{s:St}{l:List aw}(hl:∀x∈l,jr s.vals true x=true):∀(i:Nat)(d:Nat),i<=l.length->dt ((l.map aw.op).take i) 0=some d->∃r,cO (p7 s.vals) s.opn s.don (l.take i) []=some r/\r.length=d
 | 0,d,_,h=>by
  simp[dt] at h;exact⟨[],by simp[cO],h⟩
 | i+1,d,hi,h=>by
  have hlt:i<l.length:=by omega
  obtain⟨d0,h0,h1,h2,h3⟩:=xA (by simpa using hlt) h;obtain⟨r,h4,h5⟩:=ID hl i d0 (by omega) h0;simp only[Xq] at h1 h2 h3;obtain⟨r',h6⟩:=Ou (s:=s) (r:=r) (hl l[i] (UQ hlt)) h1 (by omega);have h7:cO (p7 s.vals) s.opn s.don (l.take (i+1)) []=some r':=by rw[Em l hlt,h4,W8,h6]
  have h8:=tH (by omega) h7;rw[h] at h8;exact⟨r',h7,(Wk h8).symm⟩
theorem CH{s:St}{l:List aw}{r:List Bool}(h:cO (p7 s.vals) s.opn s.don l []=some r):∀x∈l,jr s.vals true x=true:=by
 intro x hx;obtain⟨i,hi,rfl⟩:=U8 hx
 have down:∀k j,j+k=l.length->∃q,cO (p7 s.vals) s.opn s.don (l.take j) []=some q:=by
  intro k
  induction k with
  | zero=>
   intro j hj;obtain rfl:j=l.length:=by omega
   exact⟨r,by rw[U6];exact h⟩
  | succ k ih=>
   intro j hj;obtain⟨q,hq⟩:=ih (j+1) (by omega);obtain⟨q0,hq0,_⟩:=mS (by omega) hq;exact⟨q0,hq0⟩
 obtain⟨q,hq⟩:=down (l.length-(i+1)) (i+1) (by omega);obtain⟨q0,_,h2⟩:=mS hi hq;have hc:=AK s.vals l[i];unfold jr;simp only[Bool.not_eq_true',Bool.or_eq_false_iff,Vy,Vf,VC,Bool.not_eq_false'];unfold cD at h2;split at h2
 .rename_i h3;exact⟨⟨by omega,by omega⟩,.inl (by omega)⟩
 .split at h2
  .rename_i h3 h4;split at h2
   .rename_i c hcm;rw[hcm] at hc;simp only[Xu] at hc;have hc:=hc.symm;rw[U1] at hc;exact⟨⟨by omega,by omega⟩,.inr hc⟩
   .cases h2
  .split at h2
   .exact ⟨⟨by omega,by omega⟩,.inl (by omega)⟩
   .split at h2
    .exact ⟨⟨by omega,by omega⟩,.inl (by omega)⟩
    .split at h2
     .exact ⟨⟨by omega,by omega⟩,.inl (by omega)⟩
     .split at h2
      .exact ⟨⟨by omega,by omega⟩,.inl (by omega)⟩
      .cases h2
theorem zS{l:List aw}{s:St}(h1:bF (l.map aw.op)=0)(h2:∀x∈l,jr s.vals true x=true):∃b,cO (p7 s.vals) s.opn s.don l []=some [b]/\dS l s=some b:=by
 have h3:dt (l.map aw.op) 0=some 1:=by
  unfold bF at h1;split at h1
  .cases h1
  .split at h1
   .cases h1
   .split at h1
    .assumption
    .cases h1
 obtain⟨r,h4,h5⟩:=ID h2 l.length 1 (UU _) (by rw[show l.length=(l.map aw.op).length by simp,U6];exact h3);rw[U6] at h4
 match r,h5 with
 | [b],_=>
  refine⟨b,h4,?_⟩;unfold dS gY;rw[UX (by simp[h1]),h4]
theorem yo{l:List aw}{s:St}(h:¬(bF (l.map aw.op)=0/\∀x∈l,jr s.vals true x=true)):dS l s=none:=by
 unfold dS gY;split
 .rfl
 .rename_i h1
  cases hr:cO (p7 s.vals) s.opn s.don l [] with
  | none=>rfl
  | some r=>exact absurd ⟨by simpa using h1,CH hr⟩ h
end
end
section
section
theorem yd:((2:Int)=0)=False:=by simp
theorem eQ(s i:Int)(hs:aA s):am Tryz.prog 129 [eI s,eI i] (val (.bool (aQ s i))):=by
 refine aa ag Tryz.func129 rfl (by decide) Tryz.ntmps129 Tryz.results129 rfl (aD _) ?_
 repeat' first|refine go ?_|decide|refine sp ?_ ?_<;>intro _
 .rename_i h;simp at h;simp[aQ];omega
 .rename_i h1 h2;simp at h1 h2;simp[aQ];omega
 .rename_i h1 h2;simp at h1 h2;obtain⟨q,rfl⟩:∃q:Nat,i=(q:Int):=⟨i.toNat,by omega⟩;have e0:s / 2 ^ 0=s:=by simp
  refine af (fun st=>∃k:Nat,k<=q/\st=⟨31,[(0,eI (s / 2 ^ k)),(1,eI (q:Int)),(5,eI (k:Int))],[],0⟩) (fun st=>q-ax st 5) ⟨_,(wE e0),0,UR _,rfl⟩ ?_;rintro _ ⟨k,hk,rfl⟩;have hp:(1:Int)<=2 ^ k:=Int.pow_pos (by omega)
  have hd0:-9223372036854775808<=s / 2 ^ k:=by
   refine Int.le_ediv_of_mul_le (by omega) ?_;have:=hs.1;generalize (2:Int) ^ k=p at *;omega
  have hd1:s / 2 ^ k<=9223372036854775807:=by
   by_cases h:s<0
   .have:=Int.ediv_neg_of_neg_of_pos h (by omega:(0:Int)<2 ^ k);omega
   .exact Int.le_trans (Int.ediv_le_self _ (by omega)) hs.2
  have ed:s / 2 ^ (k+1)=s / 2 ^ k / 2:=by
   rw[Int.pow_succ,Int.ediv_ediv_of_nonneg (Int.le_of_lt (Int.pow_pos (by omega)))]
  generalize hx:s / 2 ^ k=x at *;by_cases hxn:x % 2=1/\x<0
  .have et:x.tmod 2 = -1:=by
    have h3:x.tmod 2 = -((-x) % 2):=by
     rw[<- Xc (by omega),Int.neg_tmod];omega
    omega
   have en:decide ((-1:Int)<0)=true:=(by decide);have em:IntKind.i64.wrap (0-(-1))=1:=(by decide);have ew:IntKind.i64.wrap (x-1)=x-1:=aE (by omega) (by omega)
   have eq:(x-1).tdiv 2=x / 2:=by
    have h3:(2:Int) ∣ x-1:=⟨x / 2,by omega⟩;rw[Int.tdiv_eq_ediv_of_dvd h3];omega
   by_cases hlt:k<q
   .repeat' first|refine ge (kf @hlt (kf @yd (kf et (kf en (kf em (kf ew eq)))))) ?_|decide|refine sp ?_ ?_<;>intro _
    have ew2:IntKind.i64.wrap (x / 2)=x / 2:=aE (by omega) (by omega);exact rI (wE (kf ed ew2)) ⟨k+1,by omega,rfl⟩
   .obtain rfl:k=q:=by omega
    repeat' first|refine ge (kf @hlt (kf @yd et)) ?_|decide|refine sp ?_ ?_<;>intro _
    have hk31:(k:Int)<31:=(by omega);simp[aQ,hx,hk31,hxn.1]
  have et:x.tmod 2=x % 2:=by
   by_cases h:x<0
   .have h0:x % 2=0:=(by omega);rw[h0];exact Int.tmod_eq_zero_of_dvd ⟨x / 2,by omega⟩
   .exact Xc (by omega)
  have en:decide (x % 2<0)=false:=by simp;omega
  have ew:IntKind.i64.wrap (x-x % 2)=x-x % 2:=aE (by omega) (by omega)
  have eq:(x-x % 2).tdiv 2=x / 2:=by
   have h3:(2:Int) ∣ x-x % 2:=⟨x / 2,by omega⟩;rw[Int.tdiv_eq_ediv_of_dvd h3];omega
  by_cases hlt:k<q
  .repeat' first|refine ge (kf @hlt (kf @yd (kf et (kf en (kf ew eq))))) ?_|decide|refine sp ?_ ?_<;>intro _
   have ew2:IntKind.i64.wrap (x / 2)=x / 2:=aE (by omega) (by omega);exact rI (wE (kf ed ew2)) ⟨k+1,by omega,rfl⟩
  .obtain rfl:k=q:=by omega
   repeat' first|refine ge (kf @hlt (kf @yd et)) ?_|decide|refine sp ?_ ?_<;>intro _
   have hk31:(k:Int)<31:=(by omega);simp[aQ,hx,hk31];rcases Int.emod_two_eq x with h|h<;>simp[h]
def lA(f:Nat->Bool):Nat->Nat
 | 0=>0
 | k+1=>lA f k+if f k=true then 2 ^ k else 0
theorem ky(f:Nat->Bool):∀k,lA f k<2 ^ k
 | 0=>by simp[lA]
 | k+1=>by
  have:=ky f k;unfold lA;rw[Nat.pow_succ];split<;>omega
theorem mz(f:Nat->Bool):∀k j,(lA f k).testBit j=(decide (j<k) && f j)
 | 0,j=>by simp[lA]
 | k+1,j=>by
  have hl:=ky f k;unfold lA;split
  .rename_i hf;rw[Nat.add_comm];rcases Wp j k with h|h|h
   .rw [Nat.testBit_two_pow_add_gt h,mz f k j];simp[h,show j<k+1 by omega]
   .subst h;rw[Nat.testBit_two_pow_add_eq,mz f j j];simp[hf]
   .rw [V6,Eq.comm]
    .simp;omega
    .have:2 ^ (k+1)<=2 ^ j:=Vp (by omega) h;rw[Nat.pow_succ] at this;omega
  .rename_i hf;rw[WT,mz f k j];rcases Wp j k with h|h|h
   .simp [h,show j<k+1 by omega]
   .subst h;simp[hf]
   .simp [show ¬j<k by omega,show ¬j<k+1 by omega]
theorem uT(f:Nat->Bool)(j:Nat)(hj:j<31):aQ (lA f 31:Nat) (j:Int)=f j:=by
 rw[cR _ j hj,nC _ (ky f 31),mz];simp[hj]
theorem Ex{a b:Int}(ha:0<=a/\a<2147483648)(hb:0<=b/\b<2147483648)(h:∀j:Nat,j<31->aQ a j=aQ b j):a=b:=by
 have e1:((jA a:Nat):Int)=a:=by unfold jA;omega
 have e2:((jA b:Nat):Int)=b:=by unfold jA;omega
 rw[<- e1,<- e2]
 congr 1
 apply Wt;intro j;by_cases hj:j<31
 .rw [<- cR a j hj,<- cR b j hj];exact h j hj
 .rw [V6 (UY (dD a) (Vp (by omega) (by omega))),V6 (UY (dD b) (Vp (by omega) (by omega)))]
abbrev sB(l:List Bool):AV:=.sl 1 (l.map fun b=>[eB b])
def nT(l:List Bool)(k:Nat):Int:=(lA (fun i=>l.getD i false) k:Nat)
def CL(k:Nat):Int:=(2 ^ k:Nat)
theorem GN{k:Nat}(hk:k<=31):IntKind.i64.wrap (CL k * 2)=CL (k+1):=by
 have h2:2 ^ k<=2 ^ 31:=Vp (by omega) hk;unfold CL;rw[Nat.pow_succ];generalize 2 ^ k=p at *;rw[aE (by omega) (by omega)];simp
theorem KV{l:List Bool}{k:Nat}(hk:k<=31)(h:l.getD k false=true):IntKind.i64.wrap (nT l k+CL k)=nT l (k+1):=by
 have h2:2 ^ k<=2 ^ 31:=Vp (by omega) hk;have h1:=ky (fun i=>l.getD i false) k;unfold nT CL;rw[lA,UZ h];generalize lA (fun i=>l.getD i false) k=b at *;generalize 2 ^ k=p at *;rw[aE (by omega) (by omega)];simp
theorem N6{l:List Bool}{k:Nat}(h:l.getD k false=false):nT l k=nT l (k+1):=by
 unfold nT;rw[lA,UX (by rw[h];simp)];rfl
theorem KR(l:List Bool)(hl:l.length<=31):am Tryz.prog 124 [sB l] (val (.int .i64 (nT l l.length))):=by
 refine aa ag Tryz.func124 rfl (by decide) Tryz.ntmps124 Tryz.results124 rfl (aD _) ?_
 repeat' first|refine go ?_|decide|refine sp ?_ ?_<;>intro _
 have e0:nT l 0=0:=rfl;have e1:CL 0=1:=rfl;refine af (fun st=>∃k:Nat,k<=l.length/\st=⟨22,[(0,sB l),(3,eI (nT l k)),(4,eI (CL k)),(5,eI (k:Int))],[],0⟩) (fun st=>l.length-ax st 5) ⟨_,(wE (kf e0 e1)),0,UR _,rfl⟩ ?_;rintro _ ⟨k,hk,rfl⟩;by_cases hlt:k<l.length
 .have ep:=GN (k:=k) (by omega);have eg:l.getD k false=l[k]:=by simp[hlt]
  repeat' first|refine go ?_|simp only[ab,hlt]|decide|refine sp ?_ ?_<;>intro _
  .rename_i hb;have ew:=KV (l:=l) (k:=k) (by omega) (by rw[eg];exact hb);exact rI (wE (kf ew ep)) ⟨k+1,by omega,rfl⟩
  .rename_i hb;have ew:=N6 (l:=l) (k:=k) (by rw[eg];exact hb);rw[ew];exact rI (wE ep) ⟨k+1,by omega,rfl⟩
 .obtain rfl:k=l.length:=by omega
  repeat' first|refine go ?_|simp only[ab,hlt]|decide|refine sp ?_ ?_<;>intro _
def qX(s:Int):List Bool:=(List.range 31).map fun(i:Nat)=>aQ s (i:Int)
theorem Ld(s:Int)(hs:aA s):am Tryz.prog 123 [eI s] (gl 4 1 ((qX s).map fun b=>[eB b])):=by
 refine aa ag Tryz.func123 rfl (by decide) Tryz.ntmps123 Tryz.results123 rfl (cW _ _ _) ?_
 repeat' first|refine go ?_|decide|refine sp ?_ ?_<;>intro _
 have hil:(qX s).length=31:=by simp[qX]
 refine af (fun st=>∃k:Nat,k<=31/\st=⟨16,[(0,eI s),(3,.osl 0),(4,eI (k:Int))],[(0,some (.row 4 1 (((qX s).take k).map fun b=>[eB b])))],1⟩) (fun st=>31-ax st 4) ⟨_,((bq 3 4 1 (by simp only[iC,aj.get,aX,aj.put,↓reduceIte,reduceCtorEq,Nat.reduceLT,Nat.reduceEqDiff,Nat.reduceAdd,Nat.reduceLeDiff,eq_self,implies_true,Va])).trans (wS [0] @Va)),0,UR _,rfl⟩ ?_;rintro _ ⟨k,hk,rfl⟩;by_cases hlt:k<31
 .have et:((qX s).take (k+1)).map (fun b=>[eB b])=((qX s).take k).map (fun b=>[eB b]) ++ [[eB (aQ s (k:Int))]]:=by
   rw[dm (fun b=>[eB b]) (qX s) (show k<(qX s).length by omega)];simp[qX]
  have hkl:((qX s).take k).length=k:=by rw[U2];omega
  have e1:decide ((k:Int)<31)=true:=by simp;omega
  repeat' first|refine ge e1 ?_|decide|refine sp ?_ ?_<;>intro _
  refine al (eQ s k hs) ?_
  repeat' first|refine ge e1 ?_|decide|refine sp ?_ ?_<;>intro _
  refine⟨rfl,by omega,rI (wS [2] et) ⟨k+1,by omega,rfl⟩⟩
 .obtain rfl:k=31:=by omega
  have e1:decide (((31:Nat):Int)<31)=false:=by decide
  repeat' first|refine ge e1 ?_|decide|refine sp ?_ ?_<;>intro _
  refine aV ?_;simp[ae.gc,Vg (Nat.le_of_eq hil)]
theorem O1(s:Int)(i:Int)(b:Bool)(h0:0<=i)(h1:i<31):nT ((qX s).set i.toNat b) 31=if b=true then bn s i else aZ s i:=by
 have hr:=ky (fun j=>((qX s).set i.toNat b).getD j false) 31
 have hw:(0:Int)<=(if b=true then bn s i else aZ s i)/\(if b=true then bn s i else aZ s i)<2147483648:=by
  split
  .unfold bn;rw[UZ ⟨h0,h1⟩];have:jA s ||| 2 ^ i.toNat<2 ^ 31:=Wq (dD s) (Wg (by omega) (by omega));omega
  .unfold aZ;rw[UZ ⟨h0,h1⟩];have:jA s ^^^ (jA s &&& 2 ^ i.toNat)<2 ^ 31:=Xv (dD s) (Xb Xz (dD s));omega
 unfold nT;refine Ex (by omega) hw fun j hj=>?_;rw[uT _ j hj];have hlen:(qX s).length=31:=by simp[qX]
 have hg:((qX s).set i.toNat b).getD j false=if i.toNat=j then b else aQ s (j:Int):=by
  rw[Os,Wf];split
  .rename_i h;rw[hlen,UZ (by omega)];rfl
  .simp [qX,hj]
 rw[hg];have e1:(decide (0<=i/\i<31))=true:=by simp[h0,h1]
 split
 .rename_i h;have h2:((j:Int) == i)=true:=by simp;omega
  cases b
  .simp [de,h2]
  .simp [gT,e1,h2]
 .rename_i h;have h2:((j:Int) == i)=false:=by simp;omega
  cases b
  .simp [de,h2]
  .simp [gT,h2]
theorem qL(s i:Int)(b:Bool)(hs:aA s)(h0:0<=i)(h1:i<31):am Tryz.prog 79 [eI s,eI i,eB b] (val (.int .i64 (if b=true then bn s i else aZ s i))):=by
 refine aa ag Tryz.func79 rfl (by decide) Tryz.ntmps79 Tryz.results79 rfl (aD _) ?_;rw[<- O1 s i b h0 h1];have hlen:(qX s).length=31:=by simp[qX]
 obtain⟨q,rfl⟩:∃q:Nat,i=(q:Int):=⟨i.toNat,by omega⟩;have e1:decide ((q:Int)<=30)=true:=by simp;omega
 have hq:q<(qX s).length:=by omega
 have jB:∀row∈(qX s).map (fun b=>[eB b]),∀av∈row,av.plain:=fun row hr av ha=>by
  obtain⟨n,_,rfl⟩:=U3.1 hr;simp at ha;subst ha;trivial
 have hset:(((qX s).map fun b=>[eB b]).set q [eB b])=((qX s).set q b).map fun b=>[eB b]:=by rw[WH]
 repeat' first|refine ge e1 ?_|decide|refine sp ?_ ?_<;>intro _
 refine dg (Ld s hs) (.inr jB) ?_
 repeat' first|refine ge e1 ?_|decide|refine sp ?_ ?_<;>intro _
 have hs':=KR ((qX s).set q b) (by simp;omega);rw[W3,hlen] at hs';refine⟨by omega,?_⟩
 repeat' first|refine go ?_|simp only[e1,ab,hq]|decide|refine sp ?_ ?_<;>intro _
 rw[hset];refine al (by exact hs') ?_
 repeat' first|refine go ?_|decide|refine sp ?_ ?_<;>intro _
end
section
theorem oB(n:Int):am Tryz.prog 163 [eI n] (val (.int .i64 (be n))):=by
 refine aa ag Tryz.func163 rfl (by decide) Tryz.ntmps163 Tryz.results163 rfl (aD _) ?_
 repeat' first|refine go ?_|decide|refine sp ?_ ?_<;>intro _
 all_goals(simp[be] at *;(repeat' split)<;>omega)
abbrev iP(n:Int):List AV:=[eI n,eS ByteArray.empty,eI 0,eS ByteArray.empty,eI 0,eS ByteArray.empty,eS ByteArray.empty,eI 0,eI 0]
abbrev qG(l:List Int):AV:=.sl 9 (l.map iP)
theorem LE(ops:List Int):∀(i:Nat)(w:Int),-1<=ku ops i w/\ku ops i w<i\/ku ops i w = -1
 | 0,w=>.inr rfl
 | i+1,w=>by
  unfold ku;split
  .exact .inr rfl
  .split
   .left;omega
   .rcases LE ops i (w+(be (ops.getD i 0)-1)) with h|h
    .left;omega
    .exact .inr h
theorem Kg(l:List Int)(q:Nat)(hq:q<=l.length)(hl:l.length<=1000000):am Tryz.prog 125 [qG l,eI ((q:Int)-1)] (val (.int .i64 (ku l q 1))):=by
 refine aa ag Tryz.func125 rfl (by decide) Tryz.ntmps125 Tryz.results125 rfl (aD _) ?_
 repeat' first|refine go ?_|decide|refine sp ?_ ?_<;>intro _
 refine af (fun st=>∃(k:Nat)(v:Int),k<=q/\1<=v/\v<=1+2 * ((q:Int)-k)/\ku l k v=ku l q 1/\st=⟨28,[(0,qG l),(5,eI v),(6,eI ((k:Int)-1))],[],0⟩) (fun st=>(match st.get 6 with | .c (.int _ n)=>(n+1).toNat|_=>0)) ⟨_,wC,q,1,UU _,by omega,by omega,rfl,rfl⟩ ?_;rintro _ ⟨k,v,hk,hv0,hv1,hb,rfl⟩
 cases k with
 | zero=>
  have e0:decide ((0:Int)<=((0:Nat):Int)-1)=false:=by decide
  repeat' first|refine ge e0 ?_|decide|refine sp ?_ ?_<;>intro _
  rw[<- hb];rfl
 | succ j=>
  have ej:((j+1:Nat):Int)-1=(j:Int):=by omega
  have hj:j<l.length:=by omega
  simp only[ej];rw[ku,wI hj] at hb
  repeat' first|refine go ?_|simp only[hj,ab]|decide|refine sp ?_ ?_<;>intro _
  refine al (oB _) ?_;have ha:=lR l[j];generalize be l[j]=n at ha hb ⊢;have ew1:IntKind.i64.wrap (n-1)=n-1:=aE (by omega) (by omega);have ew2:IntKind.i64.wrap (v+(n-1))=v+(n-1):=aE (by omega) (by omega)
  repeat' first|refine go ?_|simp only[hj,ab,ew1,ew2]|decide|refine sp ?_ ?_<;>intro _
  .rename_i h;have h:n<0:=(by simpa using h);rw[<- hb,UZ h]
  .rename_i h h2;have h:¬n<0:=(by simpa using h);have h2:v+(n-1)=0:=(by simpa using h2);rw[<- hb,UX h,UZ h2]
  .rename_i h h2;have h:¬n<0:=(by simpa using h);have h2:¬v+(n-1)=0:=(by simpa using h2);rw[UX h,UX h2] at hb;have ew:IntKind.i64.wrap ((j:Int)-1)=(j:Int)-1:=aE (by omega) (by omega);exact rI (wE ew) ⟨j,v+(n-1),by omega,by omega,by omega,hb,rfl⟩
theorem tv(l:List Int)(hl:l.length<=1000000):am Tryz.prog 82 [qG l] (val (.int .i64 (bF l))):=by
 refine aa ag Tryz.func82 rfl (by decide) Tryz.ntmps82 Tryz.results82 rfl (aD _) ?_;have ew:IntKind.i64.wrap ((l.length:Int)-1)=(l.length:Int)-1:=aE (by omega) (by omega)
 repeat' first|refine ge ew ?_|decide|refine sp ?_ ?_<;>intro _
 .rename_i h;have h:l.length=0:=by simpa using h
  simp[bF,h]
 .rename_i h h2;have h:¬l.length=0:=by simpa using h
  have h2:64<l.length:=by simp at h2;omega
  simp only[bF,UX h,UZ h2]
 .rename_i h h2;have h:¬l.length=0:=by simpa using h
  have h2:¬64<l.length:=by simp at h2;omega
  refine al (Kg l l.length (UU _) hl) ?_;have hz:=Iz (ops:=l) (by omega)
  repeat' first|refine go ?_|decide|refine sp ?_ ?_<;>intro _
  .rename_i h3
   have h3:¬dt l 0=some 1:=by
    rw[<- hz];simpa using h3
   simp only[bF,UX h,UX h2,UX h3]
  .rename_i h3
   have h3:dt l 0=some 1:=by
    rw[<- hz];simpa using h3
   simp only[bF,UX h,UX h2,UZ h3]
theorem zh(l:List aw)(hl:l.length<=1000000):am Tryz.prog 173 [bf l] (gl 151 9 (((l.map aw.op).take 70).map iP)):=by
 refine aa ag Tryz.func173 rfl (by decide) Tryz.ntmps173 Tryz.results173 rfl (cW _ _ _) ?_
 repeat' first|refine go ?_|decide|refine sp ?_ ?_<;>intro _
 refine af (fun st=>∃k:Nat,k<=l.length/\k<=70/\st=⟨25,[(0,bf l),(3,.osl 0),(4,eI (k:Int))],[(0,some (.row 151 9 (((l.map aw.op).take k).map iP)))],1⟩) (fun st=>l.length-ax st 4) ⟨_,((bq 3 151 9 (by simp only[iC,aj.get,aX,aj.put,↓reduceIte,reduceCtorEq,Nat.reduceLT,Nat.reduceEqDiff,Nat.reduceAdd,Nat.reduceLeDiff,eq_self,implies_true,Va])).trans (wS [0] @Va)),0,UR _,by omega,rfl⟩ ?_;rintro _ ⟨k,hk,hk2,rfl⟩
 have hfin:¬(k<l.length/\k<70)->((l.map aw.op).take k)=((l.map aw.op).take 70):=fun h=>by
  by_cases h1:k=70
  .rw [h1]
  .rw [Vg (by simp;omega),Vg (by simp;omega)]
 by_cases hlt:k<l.length
 .by_cases h70:k<70
  .have e1:decide ((k:Int)<70)=true:=by simp;omega
   have et:((l.map aw.op).take (k+1)).map iP=((l.map aw.op).take k).map iP ++ [iP l[k].op]:=by
    rw[dm iP (l.map aw.op) (by simpa using hlt)];simp
   have hkl:((l.map aw.op).take k).length=k:=by simp;omega
   repeat' first|refine go ?_|simp only[ab,hlt,e1]|decide|refine sp ?_ ?_<;>intro _
   refine⟨rfl,by omega,rI (wS [2] et) ⟨k+1,by omega,by omega,rfl⟩⟩
  .have e1:decide ((k:Int)<70)=false:=by simp;omega
   repeat' first|refine go ?_|simp only[ab,hlt,e1]|decide|refine sp ?_ ?_<;>intro _
   rw[<- hfin (by omega)];exact aV (by simp[ae.gc])
 .repeat' first|refine go ?_|simp only[ab,hlt]|decide|refine sp ?_ ?_<;>intro _
  rw[<- hfin (by omega)];exact aV (by simp[ae.gc])
theorem rm(l:List Int)(e:Nat)(he:e<l.length)(h:be l[e]=0):am Tryz.prog 204 [qG l,eI (e:Int)] (val (.slice none 0 0)):=by
 refine aa ag Tryz.func204 rfl (by decide) Tryz.ntmps204 Tryz.results204 rfl (aD _) ?_
 repeat' first|refine go ?_|simp only[ab,he]|decide|refine sp ?_ ?_<;>intro _
 refine al (oB _) ?_;rw[h];have e0:((0:Int) == 0)=true:=by decide
 repeat' first|refine ge e0 ?_|decide|refine sp ?_ ?_<;>intro _
theorem Oz(l:List Int)(e:Nat)(he:e<l.length)(h:be l[e]=1)(hl:l.length<=1000000):am Tryz.prog 204 [qG l,eI (e:Int)] (gl 3 1 [[eI ((e:Int)-1)]]):=by
 refine aa ag Tryz.func204 rfl (by decide) Tryz.ntmps204 Tryz.results204 rfl (cW _ _ _) ?_;have ew:IntKind.i64.wrap ((e:Int)-1)=(e:Int)-1:=aE (by omega) (by omega)
 repeat' first|refine go ?_|simp only[ab,he]|decide|refine sp ?_ ?_<;>intro _
 refine al (oB _) ?_;rw[h]
 repeat' first|refine ge ew ?_|decide|refine sp ?_ ?_<;>intro _
 all_goals first
  | (refine⟨rfl,aV (by simp[ae.gc])⟩;done)
  | (rename_i h;simp at h;done)
  | exact aV (by simp[ae.gc])
theorem M8(l:List Int)(e:Nat)(he:e<l.length)(h:be l[e]=2)(hl:l.length<=1000000):am Tryz.prog 204 [qG l,eI (e:Int)] (gl 3 1 [[eI (ku l e 1-1)],[eI ((e:Int)-1)]]):=by
 refine aa ag Tryz.func204 rfl (by decide) Tryz.ntmps204 Tryz.results204 rfl (cW _ _ _) ?_;have ew:IntKind.i64.wrap ((e:Int)-1)=(e:Int)-1:=aE (by omega) (by omega)
 repeat' first|refine go ?_|simp only[ab,he]|decide|refine sp ?_ ?_<;>intro _
 refine al (oB _) ?_;rw[h]
 repeat' first|refine ge ew ?_|decide|refine sp ?_ ?_<;>intro _
 all_goals first
  | (rename_i h;simp at h;done)
  | skip
 refine al (Kg l e (by omega) hl) ?_
 have ew2:IntKind.i64.wrap (ku l e 1-1)=ku l e 1-1:=by
  rcases LE l e 1 with h|h<;>exact aE (by omega) (by omega)
 repeat' first|refine ge (kf ew ew2) ?_|decide|refine sp ?_ ?_<;>intro _
 exact⟨rfl,aV (by simp[ae.gc])⟩
def sD(vals:List Int)(a:Int):Bool:=decide (-1<=a) && decide (a<(vals.length:Int))
theorem y2(s:St)(a n:Int):am Tryz.prog 203 [.agg (cy s),.agg [eI a,eI n]] (val (.bool (sD s.vals a))):=by
 refine aa ag Tryz.func203 rfl (by decide) Tryz.ntmps203 Tryz.results203 rfl (aD _) ?_;unfold sD
 repeat' first|refine go ?_|decide|refine sp ?_ ?_<;>intro _
 all_goals(rename_i h;rw[h];simp)
theorem K5(s:St)(a n v:Int)(h:fT s.vals a n=some v):am Tryz.prog 206 [.agg (cy s),.agg [eI a,eI n]] (val (.int .i64 v)):=by
 refine aa ag Tryz.func206 rfl (by decide) Tryz.ntmps206 Tryz.results206 rfl (aD _) ?_;unfold fT at h;by_cases h1:a = -1
 .rw [UZ h1] at h;cases h;subst h1;have e0:((-1:Int) == -1)=true:=by decide
  repeat' first|refine ge e0 ?_|decide|refine sp ?_ ?_<;>intro _
 .rw [UX h1] at h;by_cases h2:a<0
  .rw [UZ h2] at h;cases h
  .rw [UX h2] at h;obtain⟨k,rfl⟩:∃k:Nat,a=(k:Int):=⟨a.toNat,by omega⟩;obtain⟨hk,rfl⟩:=US.1 h;simp only[VD] at hk;have e1:((k:Int) == -1)=false:=by rw[Vv];omega
   repeat' first|refine go ?_|simp only[ab,hk,e1]|decide|refine sp ?_ ?_<;>intro _
theorem QH(op a b:Int):am Tryz.prog 205 [eI op,eI a,eI b] (val (.bool (Ta op (n8 a b)))):=by
  refine aa ag Tryz.func205 rfl (by decide) Tryz.ntmps205 Tryz.results205 rfl (aD _) ?_
  repeat' first|refine go ?_|decide|refine sp ?_ ?_<;>intro _
  all_goals
    (simp only[Wz,Vv,ne_eq] at *
     simp_all [Ta,n8]
     try ((repeat' split)<;>simp_all<;>omega))
end
end
end Go.Proofs.YtglaiabelcefeaaGreat
