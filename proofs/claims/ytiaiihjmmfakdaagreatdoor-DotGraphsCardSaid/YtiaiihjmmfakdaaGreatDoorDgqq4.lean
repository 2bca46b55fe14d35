/-
  Parts of the proof: Dgqp5, Dgqp6.
-/
import Derived.Test.YtiaiihjmmfakdaaGreatDoorDgqq3
import Derived.RangeFuncLeaves
import Derived.RangeFuncRecord
import Derived.Test.YtiaiihjmmfakdaaGreatDoorProg
import Derived.Laws.StructEq
import Derived.TacticsIn
import Derived.RangeFuncIn
import Derived.RangeFuncCalls
import Derived.Test.YtiaiihjmmfakdaaGreatDoorShelf
import Derived.Lib.Builder
import Derived.WalkKit
import Derived.WalkLawsBesides
import Derived.ProofKit
import Derived.OpenShut
import Derived.Deep.Slices
import Derived.BigQuiet
import Derived.Deep.QuietTactic
set_option linter.unusedVariables false
set_option linter.unusedSimpArgs false
set_option linter.defProp false
set_option maxRecDepth 100000
set_option maxHeartbeats 16000000
namespace Go.Proofs.YtiaiihjmmfakdaaGreatDoor
open Go.RowKit
section
section
def b9 (st:ak) (ren:List Nat):aa -> Prop
 | []=>True
 | (k,o) :: T=>(k<ren.length /\ (∃ e sz rows,o=some (.row e sz rows)) /\ st.tab.get (ren.getD k 0)=o) /\ b9 st ren T
def dW (R:ce) (st:ak) (av:AV):Prop:=∃ ren:List Nat,ren.Nodup /\ R.r.ren ren=av /\ b9 st ren R.tab
def cy (P:Program) (st:ak):List ResultVar -> (List AV -> Prop) -> Prop
 | [],K=>K []
 | .tmp t :: l,K=>cy P st l fun avs=>K (st.get t :: avs)
 | .cell p ty :: l,K=>iy P ty st.tab (st.get p) fun av=>cy P st l fun avs=>K (av :: avs)
def iZ:List AV -> AV
 | [x]=>x
 | l=>.tup l
def tk (P:Program) (rs:List ResultVar) (Post:ce -> Prop):Exit -> ak -> Prop
 | .normal,st=>cy P st rs fun avs=>∃ R,Post R /\ R.Ok /\ dW R st (iZ avs)
 | .ret,st=>cy P st rs fun avs=>∃ R,Post R /\ R.Ok /\ dW R st (iZ avs)
 | _,_=>False
def Bz (P:Program) (rs:List ResultVar) (R:ce):Exit -> ak -> Prop
 | .normal,st=>cy P st rs fun avs=>dW R st (iZ avs)
 | .ret,st=>cy P st rs fun avs=>dW R st (iZ avs)
 | _,_=>False
theorem HA {P:Program} {rs:List ResultVar} {R:ce} {st:ak}:Bz P rs R .ret st=cy P st rs fun avs=>dW R st (iZ avs):=rfl
theorem Fh {P:Program} {rs:List ResultVar} {Post:ce -> Prop} {st:ak}:tk P rs Post .ret st=cy P st rs fun avs=>∃ R,Post R /\ R.Ok /\ dW R st (iZ avs):=rfl
def F9 (P:Program) (rs:List ResultVar) (t:TypeId) (n:Nat) (Post:AV -> List AV -> List ar -> Prop):Exit -> ak -> Prop
 | .normal,st=>cy P st rs fun avs=>∃ cells' objs',Post (iZ avs) cells' objs' /\ iv (iZ avs) /\ (cells'.length=n /\ AV.ltL (objs'.length+1) cells' /\ ∀ o ∈ objs',aF o) /\ dq st ⟨st.n,[(0,.op 0 0 0)],aE 0 (.box t cells' :: objs'),objs'.length+1⟩
 | .ret,st=>cy P st rs fun avs=>∃ cells' objs',Post (iZ avs) cells' objs' /\ iv (iZ avs) /\ (cells'.length=n /\ AV.ltL (objs'.length+1) cells' /\ ∀ o ∈ objs',aF o) /\ dq st ⟨st.n,[(0,.op 0 0 0)],aE 0 (.box t cells' :: objs'),objs'.length+1⟩
 | _,_=>False
theorem D6 {P:Program} {rs:List ResultVar} {t:TypeId} {n:Nat} {Post:AV -> List AV -> List ar -> Prop} {st:ak}:F9 P rs t n Post .ret st=cy P st rs fun avs=>∃ cells' objs',Post (iZ avs) cells' objs' /\ iv (iZ avs) /\ (cells'.length=n /\ AV.ltL (objs'.length+1) cells' /\ ∀ o ∈ objs',aF o) /\ dq st ⟨st.n,[(0,.op 0 0 0)],aE 0 (.box t cells' :: objs'),objs'.length+1⟩:=rfl
def da:Nat -> List AV -> List (Nat × AV)
 | _,[]=>[]
 | k,a :: l=>(k,a) :: da (k+1) l
theorem gL:∀ (l:List AV) (k t:Nat),bl (da k l) t=if k<=t then l.getD (t - k) .any else .any
 | [],k,t=>by simp [da,bl]
 | a :: l,k,t=>by
  simp only [da,bl];rw [gL l (k+1) t];by_cases h:t=k
  .subst h;simp
  .rw [KY h];by_cases h2:k<=t
   .rw [K5 (by omega),K5 h2,show t - k=(t - (k+1))+1 by omega];simp
   .rw [KY (by omega),KY h2]
section
variable {P:Program} {cx:Cx} {a:Act} {w w':World} {tab:aa} {st:ak} {L:Nat -> Value} {nx:Nat}
theorem uN {ren:List Nat}:∀ {T:aa} {k:Nat} {o:ar},b9 st ren T -> T.get k=some o -> k<ren.length /\ (∃ e sz rows,o=.row e sz rows) /\ st.tab.get (ren.getD k 0)=some o
 | [],k,o,_,h=>by cases h
 | (j,oo) :: T,k,o,hp,h=>by
  rw [aa.gc] at h;split at h
  .rename_i e;subst e;subst h;obtain ⟨h1,⟨e,sz,rows,h2⟩,h3⟩:=hp.1;cases h2;exact ⟨h1,⟨e,sz,rows,rfl⟩,h3⟩
  .exact uN hp.2 h
theorem pO {t:TypeId} {v u:Value} (h:(Instr.loadAt t v).run P w=.ok u w):(do loadVar t (<- asAddr v):Sem Value).run P w=.ok u w:=by
 cases v with
 | pointer p=>
  cases p with
  | none=>simp [Instr.loadAt,Instr.sureAddr,Sem.run_bind] at h
  | some ad=>simpa [Instr.loadAt,Instr.sureAddr,asAddr,Sem.run_bind] using h
 | _=>simp [Instr.loadAt,Instr.sureAddr,Sem.run_bind] at h
def sD (tmps:Array Value):ResultVar -> Sem Value
 | .tmp t=>pure (tmps.getD t undef)
 | .cell p t=>do loadVar t (<- asAddr (tmps.getD p undef))
theorem vN (fn:Func) (tmps:Array Value):results fn tmps=(do
  let vs <- fn.results.mapM (sD tmps)
  pure (if h:vs.size=1 then vs[0] else .tuple vs)):=by
 unfold results
 congr 1
theorem sA (h:aI cx a w st L):∀ (l:List ResultVar) (K:List AV -> Prop),cy P st l K ->
  ∃ vs avs,K avs /\ vs.length=avs.length /\ (∀ (j:Nat) (v:Value) (av:AV),vs[j]? = some v -> avs[j]? = some av -> bx cx w st.tab L v av) /\
   (l.mapM (sD a.tmps):Sem (List Value)).run P w=.ok vs w
 | [],K,hp=>⟨[],[],hp,rfl,by simp,by simp⟩
 | .tmp t :: l,K,hp=>by
  obtain ⟨vs,avs,h1,h2,h3,h4⟩:=sA h l _ hp;refine ⟨a.tmps.getD t undef :: vs,st.get t :: avs,h1,by simp [h2],fun j v av h5 h6=>?_,?_⟩
  .cases j with
   | zero=>
    cases h5;cases h6;exact (h.env t).1
   | succ j=>exact h3 j v av (by simpa using h5) (by simpa using h6)
  .simp only [List.mapM_cons,sD,Sem.run_bind,Sem.run_pure,Result.andThen_ok,h4]
 | .cell p ty :: l,K,hp=>by
  obtain ⟨u,au,h1,h2,h3,h4⟩:=(xR (nx:=st.next) h.lay (fun id o hid=>(h.young id o hid).2) (h.env p).1 hp).one;obtain ⟨vs,avs,h5,h6,h7,h8⟩:=sA h l _ h1;refine ⟨u :: vs,au :: avs,h5,by simp [h6],fun j v av h9 h10=>?_,?_⟩
  .cases j with
   | zero=>
    cases h9;cases h10;exact h2
   | succ j=>exact h7 j v av (by simpa using h9) (by simpa using h10)
  .have:=pO (h4 w (Below.refl _ _));simp only [List.mapM_cons,sD];rw [Sem.run_bind,this];simp only [Sem.run_bind,Sem.run_pure,Result.andThen_ok,h8]
theorem vK {fn:Func} {K:AV -> Prop} (h:aI cx a w st L) (hp:cy P st fn.results.toList fun avs=>K (iZ avs)):∃ v av,K av /\ bx cx w st.tab L v av /\ (results fn a.tmps).run P w=.ok v w:=by
 obtain ⟨vs,avs,h1,h2,h3,h4⟩:=sA h _ _ hp
 have hm:(results fn a.tmps).run P w=.ok (if h:vs.toArray.size=1 then vs.toArray[0] else .tuple vs.toArray) w:=by
  rw [vN,Sem.run_bind,Array.mapM_eq_mapM_toList];simp only [bind_pure_comp,Sem.run_map,h4];rfl
 refine ⟨_,iZ avs,h1,?_,hm⟩;clear hm h4 h1
 match vs,avs,h2,h3 with
 | [v],[av],_,h3=>exact h3 0 v av rfl rfl
 | [],[],_,h3=>exact .tup _ _ rfl (by simp)
 | v :: v' :: vs,av :: av' :: avs,h2,h3=>
  simp only [iZ,Mp,KU];rw [dif_neg (by omega)];exact .tup _ _ (by simpa using h2) fun j x av h4 h5=>h3 j x av (by simpa using h4) h5
end
structure iY (base:Nat) (w w':World):Prop where
 below:Below base w w'
 size:w'.heap.size=w.heap.size
 cell:∀ p,w'.cell? p=w.cell? p
 cells:∀ (k:Nat) cs t x,w.heap[k]? = some (Obj.cells cs t x) -> w'.heap[k]? = some (Obj.cells cs t x)
 maps:∀ (k:Nat) es c,w.heap[k]? = some (Obj.map es c) -> w'.heap[k]? = some (Obj.map es c)
theorem iY.refl (base:Nat) (w:World):iY base w w:=⟨Below.refl _ _,rfl,fun _=>rfl,fun _ _ _ _ h=>h,fun _ _ _ h=>h⟩
theorem iY.trans {base:Nat} {w w' w'':World} (h:iY base w w') (k:iY base w' w''):iY base w w'':=
 ⟨h.below.trans k.below,k.size.trans h.size,fun p=>(k.cell p).trans (h.cell p),fun b cs t x hb=>k.cells b cs t x (h.cells b cs t x hb),fun b es c hb=>k.maps b es c (h.maps b es c hb)⟩
theorem iY.put {base k:Nat} {w:World} {o:Option (List Deferred)} (hk:base<=k) (h:w.heap[k]? = some (.deferred o)) (o':Option (List Deferred)):iY base w (w.putObj k (.deferred o')):=by
 have hother:∀ j,j ≠ k -> (w.putObj k (.deferred o')).heap[j]? = w.heap[j]?:=fun j hj=>World.putObj_heap_other hj;have hlt:k<w.heap.size:=(Lt.1 h).1;refine ⟨⟨rfl,rfl,rfl,by simp,fun j hj=>hother j (by omega)⟩,by simp,fun p=>?_,fun j cs t x hj=>?_,fun j es c hj=>?_⟩
 .by_cases e:p.block=k
  .have h1:(w.putObj k (.deferred o')).heap[p.block]? = some (.deferred o'):=by rw [e];exact World.putObj_heap_same hlt
   have h2:w.heap[p.block]? = some (.deferred o):=by rw [e];exact h
   unfold World.cell?;rw [h1,h2]
  .exact World.cell?_of_block (hother p.block e)
 .by_cases e:j=k
  .rw [e,h] at hj;cases hj
  .rw [hother j e];exact hj
 .by_cases e:j=k
  .rw [e,h] at hj;cases hj
  .rw [hother j e];exact hj
section
variable {cx:Cx} {a:Act} {w w':World} {st:ak} {L:Nat -> Value}
theorem y5 (h:aI cx a w st L) (hk:iY cx.w0.heap.size w w') {ds:List Deferred} (hm:iV cx.w0.heap.size w' (Sx cx w' st.tab L) ds):aI cx { a with defers:=ds } w' st L:=by
 have hS:∀ b,Sx cx w st.tab L b -> Sx cx w' st.tab L b:=fun b hb=>⟨by rw [hk.size];exact hb.1,hb.2.1,hb.2.2⟩;have hrv:∀ {x av nx},bx cx w st.tab L x av -> av.lt nx -> bx cx w' st.tab L x av:=fun hr hl=>hr.mono hl (fun p _=>hk.cell p) hS (fun _ _ _ h=>h);refine ⟨⟨h.lay.below.trans (mZ hk.below),fun id o hid=>?_,h.lay.sep,fun b hb=>⟨by rw [hk.size];exact (h.lay.ex b hb).1,(h.lay.ex b hb).2⟩⟩,h.size,hm,h.young,fun t=>⟨hrv (h.env t).1 (h.env t).2,(h.env t).2⟩⟩;have ho:=h.lay.objs id o hid;have hy:=(h.young id o hid).2
 cases o with
 | box t cells=>
  obtain ⟨g,cs,h1,h2,h3,h4,h5⟩:=ho;exact ⟨g,cs,h1,h2,hk.cells _ _ _ _ h3,h4,fun j x av h6 h7=>⟨hrv (h5 j x av h6 h7).1 (ag.1 hy _ (KO h7)),(h5 j x av h6 h7).2⟩⟩
 | row e sz rows=>
  obtain ⟨h1,xs,hown,h2,h3⟩:=ho;refine ⟨h1,xs,⟨hown.1,?_⟩,h2,fun i j row av ha hb=>?_⟩
  .rcases hown.2 with hn | ⟨g,cap,cur,h4,hb,hh,rest⟩
   .exact .inl hn
   .exact .inr ⟨g,cap,cur,h4,hb,hk.cells _ _ _ _ hh,rest⟩
  .obtain ⟨x,hx,hr⟩:=h3 i j row av ha hb;exact ⟨x,hx,hr.mono (fun p _=>hk.cell p) hS⟩
 | map ents=>
  obtain ⟨b,es,ck,h1,h2,h3,h4⟩:=ho;exact ⟨b,es,ck,h1,h2,hk.maps _ _ _ h3,h4⟩
 | nest e sz rows=>
  obtain ⟨h1,xs,hown,h2,h3⟩:=ho;refine ⟨h1,xs,⟨hown.1,?_⟩,h2,fun i j row av ha hb=>?_⟩
  .rcases hown.2 with hn | ⟨g,cap,cur,h4,hb,hh,rest⟩
   .exact .inl hn
   .exact .inr ⟨g,cap,cur,h4,hb,hk.cells _ _ _ _ hh,rest⟩
  .obtain ⟨x,hx,hr⟩:=h3 i j row av ha hb;exact ⟨x,hx,hrv hr (ag.1 (hy row (KO ha)) _ (KO hb))⟩
 | ghost vs env=>exact ⟨ho.1,fun t ht=>hrv (ho.2 t ht) (gS hy t)⟩
end
theorem ww {cx:Cx} {a:Act} {w w':World} {st:ak} {L:Nat -> Value} (h:aI cx a w st L) (hk:iY cx.w0.heap.size w w'):aI cx { a with defers:=[] } w' st L:=y5 h hk (iV.nil _ _ _)
theorem lZ {P:Program} {fn:Func} {tmps:Array Value} {R:Ending -> World -> Prop} {base:Nat} {S:Nat -> Prop}:∀ (ds:List Deferred) (w:World),iV base w S ds -> (∀ w',iY base w w' -> LeavesIn Fence.wide 0 P fn tmps R [] .returning w') -> LeavesInM Fence.wide 0 P fn tmps R ds .returning w
 | [],w,_,h=>h w (iY.refl _ _)
 | d :: ds,w,hm,h=>by
  obtain ⟨k,rfl,h1,h2,h3⟩:=hm.2 d (LD ..);have hk:=iY.put h1 h2 none;refine ⟨by simp,.inl ⟨k,_,rfl,run_takeDeferred h2,lZ (S:=S) ds _ ⟨(List.nodup_cons.1 hm.1).2,fun d' hd'=>?_⟩ fun w' hw'=>h w' (hk.trans hw')⟩⟩;obtain ⟨k',rfl,h4,h5,h6⟩:=hm.2 d' (Lz _ hd');refine ⟨k',rfl,h4,?_,h6⟩;have hne:k' ≠ k:=fun e=>(List.nodup_cons.1 hm.1).1 (by rw [<- e];exact hd');rw [World.putObj_heap_other hne];exact h5
theorem lz {P : Program} {f : FuncId} {fn : Func} {c : Code} (hf : P.funcs[f]? = some fn) (hb : fn.body = some c) (hname : (fn.name == "runtime.NumGoroutine") = false) {args : List AV} {Post : ce → Prop} {n : Nat} (hnt : fn.ntmps = n) {rs : List ResultVar} (hrs : fn.results = rs.toArray) (hn : Nat.ble args.length n = true)
  (h:∀ (cx:Cx) (a:Act) (w:World) (L:Nat -> Value),aI cx a w ⟨n,da 0 args,[],0⟩ L -> c.wp P (np cx (tk P rs Post)) a w):cT P f args Post:=by
 have hn:=MI hn;subst hnt;have hrs:fn.results.toList=rs:=by rw [hrs]
 refine ⟨fun vs w=>?_,fun S w vs hS hvs hv=>?_⟩
 ·have : ¬ fn.name = "runtime.NumGoroutine" := by simpa using hname
  simp [callFunc,Sem.run_bind,hf,this,hb]
 .let cx:Cx:=(Cx.mk0 S w hS)
  refine (callsIn_wide (n:=0)).1 (callsIn_of_wp_marks hf hb trivial (wpIn_wide.2 ?_));have hL:fY cx w [] (fun _=>undef):=⟨mZ (Below.refl _ _),fun id o h=>(by cases h),fun id id' o o' g h=>(by cases h),fun b hb=>hb.elim⟩
  have hC:aI cx { tmps:=vs ++ Array.replicate (fn.ntmps - vs.size) undef,defers:=[] } w ⟨fn.ntmps,da 0 args,[],0⟩ (fun _=>undef):=by
   refine ⟨hL,?_,iV.nil _ _ _,fun id o h=>(by cases h),fun t=>?_⟩
   .simp;omega
   have e:(⟨fn.ntmps,da 0 args,[],0⟩:ak).get t=args.getD t .any:=by
    show (if t<fn.ntmps then bl (da 0 args) t else .any)=_;rw [gL];split
    .simp
    .simp [List.getD,Lh (show args.length<=t by omega)]
   rw [e];by_cases ht:t<args.length
   .have ht':t<vs.size:=by omega
    have e2:(vs ++ Array.replicate (fn.ntmps - vs.size) undef).getD t undef=vs[t]:=by
     rw [LA,LY ht',KT ht'];rfl
    have e3:args.getD t .any=args[t]:=(by simp [List.getD,ht]);rw [e2,e3];have:=hv t _ _ (KT ht') (KN ht);exact ⟨.tree (this.mono (fun _ _=>rfl) fun b hb=>⟨hS b hb,⟨.inl hb,fun h=>h⟩,fun id o h=>by cases h⟩),this.lt 0⟩
   .have e3:args.getD t .any=.any:=(by simp [List.getD,Lh (Nat.le_of_not_lt ht)]);rw [e3];exact ⟨.tree (.any _),trivial⟩
  refine Code.wp_mono (fun e a w' ⟨st,L,h1,h2⟩=>?_) (h cx _ w _ hC);rw [<- hrs] at h1
  have key:(cy P st fn.results.toList fun avs=>∃ R,Post R /\ R.Ok /\ dW R st (iZ avs)) -> LeavesInM Fence.wide 0 P fn a.tmps (fun e w'=>∃ v' L R,Post R /\ R.Ok /\ e=.returned v' /\ fY cx w' R.tab L /\ bx cx w' R.tab L v' R.r) a.defers .returning w':=fun h1=>by
   refine lZ _ _ h2.defers fun w2 hk2=>?_;have h2:=ww h2 hk2;clear hk2;generalize w2=w' at h2;obtain ⟨v,av,⟨R,hPost,hok,ren,hnd,hr,ht⟩,h4,h5⟩:=vK (K:=fun av=>∃ R,Post R /\ R.Ok /\ dW R st av) h2 h1;refine ⟨v,h5,v,fun k=>L (ren.getD k 0),R,hPost,hok,rfl,?_⟩;subst hr;have hget:=fun k o=>uN (st:=st) (T:=R.tab) (k:=k) (o:=o) ht;have hsub:∀ b,Sx cx w' st.tab L b -> Sx cx w' R.tab (fun k=>L (ren.getD k 0)) b:=fun b hb=>⟨hb.1,hb.2.1,fun k o hk=>hb.2.2 _ o (hget k o hk).2.2⟩;refine ⟨⟨h2.lay.below,fun k o hk=>?_,fun k k' o o' g h6 h7 h8 h9=>?_,fun b hb=>hb.elim⟩,ny hsub (fun k p hk=>?_) _ _ h4⟩
   .obtain ⟨h6,⟨e,sz,rows,rfl⟩,h7⟩:=hget k o hk;obtain ⟨h8,xs,h9,h10,h11⟩:=h2.lay.objs _ _ h7;refine ⟨h8,xs,h9,h10,fun i j row av h12 h13=>?_⟩;obtain ⟨x,hx,hrt⟩:=h11 i j row av h12 h13;exact ⟨x,hx,hrt.mono (fun _ _=>rfl) hsub⟩
   .obtain ⟨ha,_,hb⟩:=hget k o h6;obtain ⟨ha',_,hb'⟩:=hget k' o' h7;have:=h2.lay.sep _ _ o o' g hb hb' h8 h9;simp only [List.getD,KN ha,KN ha',Lm] at this;have hp:=Mg.1 hnd;rcases Mz k k' with hlt|he|hlt
    .exact absurd this (hp k k' ha ha' hlt)
    .exact he
    .exact absurd this.symm (hp k' k ha' ha hlt)
   .unfold Kx at *
    cases ho:R.tab.get k with
    | none=>simp [ho] at hk
    | some o=>
     rw [(hget k o ho).2.2];simpa [ho] using hk
  cases e with
  | normal=>exact key h1
  | ret=>exact key h1
  | _=>exact h1.elim
theorem kK {P:Program} {st:ak}:∀ {l:List ResultVar} {K K':List AV -> Prop},(∀ avs,K avs -> K' avs) -> cy P st l K -> cy P st l K'
 | [],K,K',h,hp=>h _ hp
 | .tmp t :: l,K,K',h,hp=>kK (l:=l) (fun avs h2=>h _ h2) hp
 | .cell p ty :: l,K,K',h,hp=>by
  have step:∀ av,(cy P st l fun avs=>K (av :: avs)) -> cy P st l fun avs=>K' (av :: avs):=fun av=>kK (l:=l) (fun avs h2=>h _ h2)
  have take:∀ cs,mg P ty cs (fun av=>cy P st l fun avs=>K (av :: avs)) -> mg P ty cs (fun av=>cy P st l fun avs=>K' (av :: avs)):=fun cs ⟨h1,h2,h3⟩=>⟨h1,h2,by
   split at h3
   .rw [K5 (by assumption)];exact step _ h3
   .rw [KY (by assumption)];exact step _ h3⟩
  unfold cy iy at hp ⊢;split at hp
  .exact take _ hp
  .split at hp
   .rename_i h0
    first|simp only [h0]|skip
    exact ⟨hp.1,take _ hp.2⟩
   .rename_i h0
    first|simp only [h0]|skip
    exact ⟨hp.1,take _ hp.2⟩
   .rename_i h0
    first|simp only [h0]|skip
    exact ⟨hp.1,take _ hp.2⟩
   .exact hp.elim
  .exact hp.elim
theorem Gk {P:Program} {rs:List ResultVar} {R:ce} (hok:R.Ok) (e:Exit) (st:ak) (h:Bz P rs R e st):tk P rs (fun R'=>R'=R) e st:=by
 cases e with
 | normal=>exact kK (fun avs h=>⟨R,rfl,hok,h⟩) h
 | ret=>exact kK (fun avs h=>⟨R,rfl,hok,h⟩) h
 | _=>exact h.elim
theorem o5 {P : Program} {f : FuncId} {fn : Func} {c : Code} (hf : P.funcs[f]? = some fn) (hb : fn.body = some c) (hname : (fn.name == "runtime.NumGoroutine") = false) {args : List AV} {R : ce} {n : Nat} (hnt : fn.ntmps = n) {rs : List ResultVar} (hrs : fn.results = rs.toArray) (hn : Nat.ble args.length n = true)
  (hok:R.Ok) (h:∀ (cx:Cx) (a:Act) (w:World) (L:Nat -> Value),aI cx a w ⟨n,da 0 args,[],0⟩ L -> c.wp P (np cx (Bz P rs R)) a w):aw P f args R:=
 lz hf hb hname hnt hrs hn fun cx a w L hc=>Code.wp_mono (fun e a w ⟨st,L,h1,h2⟩=>⟨st,L,Gk hok e st h1,h2⟩) (h cx a w L hc)
theorem ba {P : Program} (hm : P.follows .mixedOrders = true) {f : FuncId} {fn : Func} {c : Code} (hf : P.funcs[f]? = some fn) (hb : fn.body = some c) (hname : (fn.name == "runtime.NumGoroutine") = false) {args : List AV} {Post : ce → Prop} {n : Nat} (hnt : fn.ntmps = n) {rs : List ResultVar} (hrs : fn.results = rs.toArray) (hn : Nat.ble args.length n = true)
  (h:bC P c (tk P rs Post) ⟨n,da 0 args,[],0⟩):cT P f args Post:=
 lz hf hb hname hnt hrs hn fun cx a w L hc=>sG hm c _ a w _ L hc h
theorem ab {P : Program} (hm : P.follows .mixedOrders = true) {f : FuncId} {fn : Func} {c : Code} (hf : P.funcs[f]? = some fn) (hb : fn.body = some c) (hname : (fn.name == "runtime.NumGoroutine") = false) {args : List AV} {R : ce} {n : Nat} (hnt : fn.ntmps = n) {rs : List ResultVar} (hrs : fn.results = rs.toArray) (hn : Nat.ble args.length n = true)
  (hok:R.Ok) (h:bC P c (Bz P rs R) ⟨n,da 0 args,[],0⟩):aw P f args R:=
 o5 hf hb hname hnt hrs hn hok fun cx a w L hc=>sG hm c _ a w _ L hc h
end
section
def jU (st:ak):List (Nat × AV) -> Prop
 | []=>True
 | (t,av) :: l=>st.get t=av /\ jU st l
def jW (st:ak):aa -> Prop
 | []=>True
 | (id,o) :: l=>st.tab.get id=o /\ jW st l
def cg (nx:Nat):aa -> Prop
 | []=>True
 | (id,some o) :: l=>(id<nx /\ o.lt nx) /\ cg nx l
 | (_,none) :: l=>cg nx l
theorem qW {st:ak} {nx:Nat}:∀ {l:List (Nat × AV)} (t:Nat),jU st l -> cS nx l -> (bl l t=st.get t \/ bl l t=.any) /\ (bl l t).lt nx
 | [],t,_,_=>⟨.inr rfl,trivial⟩
 | (k,av) :: l,t,h,hl=>by
  unfold bl;split
  .rename_i e;rw [e];exact ⟨.inl h.1.symm,hl.1⟩
  .exact qW t h.2 hl.2
theorem kC {st:ak} {nx:Nat}:∀ {l:aa} {id:Nat} {o:ar},jW st l -> cg nx l -> l.get id=some o -> st.tab.get id=some o /\ id<nx /\ o.lt nx
 | [],id,o,_,_,h=>by cases h
 | (k,oo) :: l,id,o,h,hl,hg=>by
  rw [aa.gc] at hg;split at hg
  .rename_i e;subst e;subst hg;exact ⟨h.1,hl.1.1,hl.1.2⟩
  .cases oo with
   | none=>exact kC h.2 hl hg
   | some=>exact kC h.2 hl.2 hg
theorem DI {st:ak} {n nx:Nat} {env:List (Nat × AV)} {tab:aa} (hn:st.n=n) (he:jU st env) (ht:jW st tab) (hl:cS nx env) (hl2:cg nx tab):dq st ⟨n,env,tab,nx⟩:=by
 intro cx a w L h;have hsub:∀ id o,tab.get id=some o -> st.tab.get id=some o:=fun id o hid=>(kC ht hl2 hid).1;have hS:∀ b,Sx cx w st.tab L b -> Sx cx w tab L b:=fun b hb=>⟨hb.1,hb.2.1,fun id o hid=>hb.2.2 id o (hsub id o hid)⟩
 have hK:∀ id p,Kx tab L id=some p -> Kx st.tab L id=some p:=fun id p hk=>by
  unfold Kx at *
  cases ho:tab.get id with
  | none=>simp [ho] at hk
  | some o=>rw [hsub id o ho];simpa [ho] using hk
 have hrv:∀ x av,bx cx w st.tab L x av -> bx cx w tab L x av:=fun x av hr=>by
  have:∀ nx',av.lt nx' -> bx cx w tab L x av:=fun nx' hlt=>hr.mono hlt (fun _ _=>rfl) hS (fun id p _ hk=>hK id p hk)
  induction hr with
  | tree h=>exact .tree (h.mono (fun _ _=>rfl) hS)
  | osl x id h=>exact .osl x id fun sz v e=>h sz v (hK id _ e)
  | op x id i j h=>exact .op x id i j fun sz v e=>h sz v (hK id _ e)
  | agg xs cs hn hr ih=>exact .agg xs cs hn fun j x av h1 h2=>ih j x av h1 h2 fun nx' hlt=>(hr j x av h1 h2).mono hlt (fun _ _=>rfl) hS (fun id p _ hk=>hK id p hk)
  | tup xs cs hn hr ih=>exact .tup xs cs hn fun j x av h1 h2=>ih j x av h1 h2 fun nx' hlt=>(hr j x av h1 h2).mono hlt (fun _ _=>rfl) hS (fun id p _ hk=>hK id p hk)
  | fn fi xs cs hn hr ih=>exact .fn fi xs cs hn fun j x av h1 h2=>ih j x av h1 h2 fun nx' hlt=>(hr j x av h1 h2).mono hlt (fun _ _=>rfl) hS (fun id p _ hk=>hK id p hk)
  | bfn fi xs cs hn hr ih=>exact .bfn fi xs cs hn fun j x av h1 h2=>ih j x av h1 h2 fun nx' hlt=>(hr j x av h1 h2).mono hlt (fun _ _=>rfl) hS (fun id p _ hk=>hK id p hk)
 refine ⟨L,⟨⟨h.lay.below,fun id o hid=>?_,fun id id' o o' g h1 h2=>h.lay.sep id id' o o' g (hsub id o h1) (hsub id' o' h2),fun b hb=>⟨(h.lay.ex b hb).1,fun id o hid=>(h.lay.ex b hb).2 id o (hsub id o hid)⟩⟩,h.size.trans hn,h.defers.mono (fun _ _=>rfl) hS,fun id o hid=>(kC ht hl2 hid).2,fun t=>?_⟩,hS⟩
 .have ho:=h.lay.objs id o (hsub id o hid);have hext:kc cx w st.tab L 0 w tab L:=⟨fun _ _=>rfl,hS,fun id p hlt=>by omega⟩
  cases o with
  | box t cells=>
   obtain ⟨g,cs,h1,h2,h3,h4,h5⟩:=ho;exact ⟨g,cs,h1,h2,h3,h4,fun j x av h6 h7=>⟨hrv x av (h5 j x av h6 h7).1,(h5 j x av h6 h7).2⟩⟩
  | row e sz rows=>
   obtain ⟨h1,xs,h2,h3,h4⟩:=ho;refine ⟨h1,xs,h2,h3,fun i j row av h5 h6=>?_⟩;obtain ⟨x,hx,hr⟩:=h4 i j row av h5 h6;exact ⟨x,hx,hext.rt hr⟩
  | map ents=>exact ho
  | nest e sz rows=>
   obtain ⟨h1,xs,h2,h3,h4⟩:=ho;refine ⟨h1,xs,h2,h3,fun i j row av h5 h6=>?_⟩;obtain ⟨x,hx,hr⟩:=h4 i j row av h5 h6;exact ⟨x,hx,hrv x av hr⟩
  | ghost vs env=>exact ⟨ho.1,fun t ht=>hrv _ _ (ho.2 t ht)⟩
 .obtain ⟨h1,h2⟩:=qW t he hl;show bx cx w tab L _ (if t<n then bl env t else .any) /\ (if t<n then bl env t else .any).lt nx;split
  case isFalse=>exact ⟨.tree (.any _),trivial⟩
  refine ⟨?_,h2⟩;rcases h1 with h1|h1
  .rw [h1];exact hrv _ _ (h.env t).1
  .rw [h1];exact .tree (.any _)
theorem dq.trans {st st' st'':ak} (h:dq st st') (h2:dq st' st''):dq st st'':=fun cx a w L hc=>(h cx a w L hc).elim fun L' hc'=>(h2 cx a w L' hc'.1).elim fun L2 h3=>⟨L2,h3.1,fun b hb=>h3.2 b (hc'.2 b hb)⟩
def rK (l:List Nat):List (Nat × AV) -> List (Nat × AV)
 | []=>[]
 | (t,av) :: r=>(t,av.ren l) :: rK l r
theorem oJ (l:List Nat):∀ (r:List (Nat × AV)) (t:Nat),bl (rK l r) t=(bl r t).ren l
 | [],t=>rfl
 | (q,av) :: r,t=>by
  unfold rK bl;split
  .rfl
  .exact oJ l r t
def ar.ren (l:List Nat):ar -> ar
 | .box t cells=>.box t (AV.renL l cells)
 | .row e sz rows=>.row e sz rows
 | .nest e sz rows=>.nest e sz (rows.map (AV.renL l))
 | .map ents=>.map ents
 | .ghost vs env=>.ghost vs (rK l env)
theorem ar.ren_sz (l:List Nat) (o:ar):(o.ren l).sz=o.sz:=by cases o<;>simp [ar.ren,ar.sz,a8]
def il (st:ak) (ids:List Nat):List (Nat × AV) -> Prop
 | []=>True
 | (t,av) :: l=>st.get t=av.ren ids /\ il st ids l
def gM (st:ak) (ids:List Nat):aa -> Prop
 | []=>True
 | (id,some o) :: l=>(id<ids.length /\ st.tab.get (ids.getD id 0)=some (o.ren ids)) /\ gM st ids l
 | (_,none) :: l=>gM st ids l
theorem oE {st:ak} {ids:List Nat} {nx:Nat}:∀ {l:List (Nat × AV)} (t:Nat),il st ids l -> cS nx l -> ((bl l t).ren ids=st.get t \/ bl l t=.any) /\ (bl l t).lt nx
 | [],t,_,_=>⟨.inr rfl,trivial⟩
 | (k,av) :: l,t,h,hl=>by
  unfold bl;split
  .rename_i e;rw [e];exact ⟨.inl h.1.symm,hl.1⟩
  .exact oE t h.2 hl.2
theorem i7 {st:ak} {ids:List Nat} {nx:Nat}:∀ {l:aa} {id:Nat} {o:ar},gM st ids l -> cg nx l -> l.get id=some o -> (id<ids.length /\ st.tab.get (ids.getD id 0)=some (o.ren ids)) /\ id<nx /\ o.lt nx
 | [],id,o,_,_,h=>by cases h
 | (k,some oo) :: l,id,o,h,hl,hg=>by
  rw [aa.gc] at hg;split at hg
  .rename_i e;subst e;cases hg;exact ⟨h.1,hl.1.1,hl.1.2⟩
  .exact i7 h.2 hl.2 hg
 | (k,none) :: l,id,o,h,hl,hg=>by
  rw [aa.gc] at hg;split at hg
  .cases hg
  .exact i7 (l:=l) h hl hg
theorem BO {st:ak} {n nx:Nat} {env:List (Nat × AV)} {tab:aa} (ids:List Nat) (hnd:ids.Nodup) (hn:st.n=n) (he:il st ids env) (ht:gM st ids tab) (hl:cS nx env) (hl2:cg nx tab):dq st ⟨n,env,tab,nx⟩:=by
 intro cx a w L h;have hget:∀ k o,tab.get k=some o -> k<ids.length /\ st.tab.get (ids.getD k 0)=some (o.ren ids):=fun k o hk=>(i7 ht hl2 hk).1;have hS:∀ b,Sx cx w st.tab L b -> Sx cx w tab (fun k=>L (ids.getD k 0)) b:=fun b hb=>⟨hb.1,hb.2.1,fun k o hk=>hb.2.2 _ _ (hget k o hk).2⟩
 have hK:∀ k p,Kx tab (fun k=>L (ids.getD k 0)) k=some p -> Kx st.tab L (ids.getD k 0)=some p:=fun k p hk=>by
  unfold Kx at *
  cases ho:tab.get k with
  | none=>simp [ho] at hk
  | some o=>
   rw [(hget k o ho).2];simpa [ho,ar.ren_sz] using hk
 refine ⟨fun k=>L (ids.getD k 0),⟨⟨h.lay.below,fun k o hk=>?_,fun k k' o o' g h6 h7 h8 h9=>?_,fun b hb=>⟨(h.lay.ex b hb).1,fun k o hk=>(h.lay.ex b hb).2 _ _ (hget k o hk).2⟩⟩,h.size.trans hn,h.defers.mono (fun _ _=>rfl) hS,fun id o hid=>(i7 ht hl2 hid).2,fun t=>?_⟩,hS⟩
 .obtain ⟨_,h7⟩:=hget k o hk;have ho:=h.lay.objs _ _ h7
  cases o with
  | box t cells=>
   obtain ⟨g,cs,h1,h2,h3,h4,h5⟩:=ho;refine ⟨g,cs,h1,h2,h3,by simpa [a8] using h4,fun j x av h6 h8=>?_⟩;have h9:=h5 j x (av.ren ids) h6 (by rw [a8,KV,h8];rfl);exact ⟨ny hS hK av x h9.1,h9.2⟩
  | row e sz rows=>
   obtain ⟨h1,xs,h2,h3,h4⟩:=ho;refine ⟨h1,xs,h2,h3,fun i j row av h5 h6=>?_⟩;obtain ⟨x,hx,hr⟩:=h4 i j row av h5 h6;exact ⟨x,hx,hr.mono (fun _ _=>rfl) hS⟩
  | map ents=>exact ho
  | nest e sz rows=>
   obtain ⟨h1,xs,h2,h3,h4⟩:=ho;refine ⟨fun row hr=>by simpa [a8] using h1 (AV.renL ids row) (K8.2 ⟨row,hr,rfl⟩),xs,by simpa using h2,h3,fun i j row av h5 h6=>?_⟩;obtain ⟨x,hx,hr⟩:=h4 i j (AV.renL ids row) (av.ren ids) (by rw [KV,h5];rfl) (by rw [a8,KV,h6];rfl);exact ⟨x,hx,ny hS hK _ _ hr⟩
  | ghost vs env=>
   refine ⟨ho.1,fun t ht=>ny hS hK _ _ ?_⟩;have h9:=ho.2 t ht
   rwa [oJ] at h9
 .obtain ⟨ha,hb⟩:=hget k o h6;obtain ⟨ha',hb'⟩:=hget k' o' h7;have:=h.lay.sep _ _ _ _ g hb hb' h8 h9;simp only [List.getD,KN ha,KN ha',Lm] at this;have hp:=Mg.1 hnd;rcases Mz k k' with hlt|he|hlt
  .exact absurd this (hp k k' ha ha' hlt)
  .exact he
  .exact absurd this.symm (hp k' k ha' ha hlt)
 .obtain ⟨h1,h2⟩:=oE t he hl;show bx cx w tab _ _ (if t<n then bl env t else .any) /\ (if t<n then bl env t else .any).lt nx;split
  case isFalse=>exact ⟨.tree (.any _),trivial⟩
  refine ⟨?_,h2⟩;rcases h1 with h1|h1
  .refine ny hS hK _ _ ?_;rw [h1];exact (h.env t).1
  .rw [h1];exact .tree (.any _)
theorem bf {st:ak} (t e sz:Nat) (hg:st.get t=.c (.slice none 0 0)):dq st ⟨st.n,(t,.osl st.next) :: st.env,(st.next,some (.row e sz [])) :: st.tab,st.next+1⟩:=by
 intro cx a w L h;have hv:=(h.env t).1;rw [hg] at hv;have hv:=hv.c_inv
 have hput:a.put (some t) (.slice none 0 0)=a:=by
  unfold Act.put
  have:a.tmps.setIfInBounds t (.slice none 0 0)=a.tmps:=by
   apply MP (by simp);intro i h1 h2;rw [Array.getElem_setIfInBounds];split
   .rename_i e;subst e;rw [<- hv];simp [Array.getD,h2]
   .rfl
  simp only [this]
 refine ⟨bb L st.next (.slice none 0 0),?_,fun b hb=>⟨hb.1,hb.2.1,fun k o hk hg=>?_⟩⟩
 rotate_left
 .have hk:aa.get ((st.next,some (.row e sz [])) :: st.tab) k=some o:=hk;rw [aa.gc] at hk;unfold bb at hg;split at hk
  .rename_i e1;rw [K5 e1] at hg;simp [aH] at hg
  .rename_i e1;rw [KY e1] at hg;exact hb.2.2 k o hk hg
 have:=iw (ob:=.row e sz []) (v:=.slice none 0 0) (x:=.slice none 0 0) (av:=.osl st.next) h (Below.refl _ _) (fun g hg=>by simp [aH] at hg) (fun hext=>⟨by simp,[],gC ..,by simp,by simp⟩) trivial (fun hext=>?_) (LK _) (some t)
 .rw [hput] at this;exact this
 .refine .osl _ _ fun sz u hk=>?_;simp [Kx,aa.gc,bb] at hk;exact hk.2
theorem iT {st:ak} {n nx:Nat} {env:List (Nat × AV)} {tab:aa} (h:st.n=n /\ (jU st env /\ jW st tab) /\ cS nx env /\ cg nx tab):dq st ⟨n,env,tab,nx⟩:=DI h.1 h.2.1.1 h.2.1.2 h.2.2.1 h.2.2.2
theorem kI {st:ak} {n nx:Nat} {env:List (Nat × AV)} {tab:aa} (ids:List Nat) (h:ids.Nodup /\ st.n=n /\ (il st ids env /\ gM st ids tab) /\ cS nx env /\ cg nx tab):dq st ⟨n,env,tab,nx⟩:=BO ids h.1 h.2.1 h.2.2.1.1 h.2.2.1.2 h.2.2.2.1 h.2.2.2.2
def ap (st:ak) (t:Nat):Nat:=match st.get t with | .c (.int _ n)=>n.toNat | _=>0
theorem ay {x:Int} (h1:-9223372036854775808<=x) (h2:x<=9223372036854775807):IntKind.i64.wrap x=x:=by
 rw [IntKind.wrap_i64];omega
theorem mc {k:Nat} (h:k<=4611686018427387904):IntKind.i64.wrap ((k:Int)+1)=((k+1:Nat):Int):=by
 rw [ay (by omega) (by omega)];omega
def val (v:Value):ce:=⟨.c v,[],0⟩
theorem aU (v:Value):(val v).Ok:=⟨fun id o h=>(by cases h),trivial⟩
theorem qV {v:Value} {st:ak} {av:AV} (h:av=.c v):dW (val v) st av:=⟨[],List.nodup_nil,by rw [h];rfl,trivial⟩
theorem vZ {v:Value} {st:ak} {av:AV}:dW (val v) st av=(av=.c v):=propext ⟨fun ⟨ren,_,h,_⟩=>h.symm,qV⟩
abbrev eI (n:Int):AV:=.c (.int .i64 n)
abbrev eB (b:Bool):AV:=.c (.bool b)
abbrev eS (s:ByteArray):AV:=.c (.string s)
abbrev sI (l:List Int):AV:=.sl 1 (l.map fun n=>[eI n])
theorem ae {α:Type} {f:α -> List AV} {l:List α} {k:Nat} (h:k<l.length):(l.map f)[k]?.getD []=f l[k]:=by
 rw [KV,KN h];rfl
theorem aZ {P:Program} {g:FuncId} {args:List AV} {v:Value} {K:Value -> Prop} (h:aw P g args (val v)) (hk:K v):∃ v,aw P g args ⟨.c v,[],0⟩ /\ K v:=⟨v,h,hk⟩
theorem fZ {I:ak -> Prop} {μ:ak -> Nat} {n:Nat} {st st':ak} (hw:dq st st') (hI:I st') (hm:μ st'<n):sr I μ n st:=⟨st',hw,hI,hm⟩
end
section
theorem IX:bG Tryz.prog 32=true:=by kernel_rfl
theorem Jq:am Tryz.prog 32=10:=by kernel_rfl
theorem Ho:bh Tryz.prog 33=(56,7):=by kernel_rfl
theorem Kb:vt Tryz.prog 3=Jy.int:=by kernel_rfl
theorem Iv:bh Tryz.prog 23=(2,1):=by kernel_rfl
theorem Iz:bT Tryz.prog 44=some (Value.agg #[Value.slice none 0 0,Value.slice none 0 0]):=by kernel_rfl
theorem IK:am Tryz.prog 44=2:=by kernel_rfl
theorem Gt:bG Tryz.prog 44=true:=by kernel_rfl
theorem Je:cz Tryz.prog 50=some (3,1,8):=by kernel_rfl
theorem Jt:xq 50=false:=by kernel_rfl
theorem IT:cz Tryz.prog 51=some (4,1,1):=by kernel_rfl
theorem GI:xq 51=false:=by kernel_rfl
theorem DM:bv Tryz.prog 56 0=some 0:=by kernel_rfl
theorem Ka:bG Tryz.prog 3=false:=by kernel_rfl
theorem JD:am Tryz.prog 3=1:=by kernel_rfl
theorem C4:bv Tryz.prog 44 0=some 0:=by kernel_rfl
theorem Jg:bG Tryz.prog 41=false:=by kernel_rfl
theorem HG:am Tryz.prog 41=1:=by kernel_rfl
theorem II:bh Tryz.prog 41=(62,6):=by kernel_rfl
theorem Ih:bG Tryz.prog 62=true:=by kernel_rfl
theorem He:am Tryz.prog 62=6:=by kernel_rfl
theorem HO:bG Tryz.prog 56=true:=by kernel_rfl
theorem Ir:am Tryz.prog 56=7:=by kernel_rfl
theorem GR:bh Tryz.prog 51=(4,1):=by kernel_rfl
theorem JK:am Tryz.prog 4=1:=by kernel_rfl
theorem Jn:bh Tryz.prog 50=(3,1):=by kernel_rfl
theorem J8:bG Tryz.prog 4=false:=by kernel_rfl
theorem Ji:bh Tryz.prog 34=(76,9):=by kernel_rfl
theorem GX:cz Tryz.prog 23=some (2,1,8):=by kernel_rfl
theorem BF:bv Tryz.prog 44 1=some 1:=by kernel_rfl
theorem G8:bG Tryz.prog 42=false:=by kernel_rfl
theorem IL:am Tryz.prog 42=1:=by kernel_rfl
theorem Hq:cn Tryz.prog 68=some ([(0,1),(1,1)],[Value.slice none 0 0,Value.slice none 0 0]):=by kernel_rfl
theorem JY:vt Tryz.prog 9=Jy.str:=by kernel_rfl
theorem IY:cn Tryz.prog 76=some ([(0,1),(1,2),(3,2),(5,1),(6,1),(7,2)],[Value.int IntKind.i64 0,Value.string ByteArray.empty,Value.int IntKind.i64 0,Value.string ByteArray.empty,Value.int IntKind.i64 0,Value.string ByteArray.empty,Value.string ByteArray.empty,Value.int IntKind.i64 0,Value.int IntKind.i64 0]):=by kernel_rfl
theorem Ic:cz Tryz.prog 34=some (76,9,104):=by kernel_rfl
theorem Dc:bv Tryz.prog 32 6=some 6:=by kernel_rfl
theorem GN:bG Tryz.prog 27=false:=by kernel_rfl
theorem GH:am Tryz.prog 27=1:=by kernel_rfl
theorem Jm:bh Tryz.prog 27=(78,3):=by kernel_rfl
theorem Bh:bv Tryz.prog 32 7=some 7:=by kernel_rfl
theorem Gw:bG Tryz.prog 28=false:=by kernel_rfl
theorem GU:am Tryz.prog 28=1:=by kernel_rfl
theorem GV:bh Tryz.prog 28=(80,5):=by kernel_rfl
theorem AF:bv Tryz.prog 32 4=some 4:=by kernel_rfl
theorem It:bG Tryz.prog 25=false:=by kernel_rfl
theorem I8:am Tryz.prog 25=1:=by kernel_rfl
theorem IR:bh Tryz.prog 25=(125,2):=by kernel_rfl
theorem CP:bv Tryz.prog 32 5=some 5:=by kernel_rfl
theorem Gu:bG Tryz.prog 26=false:=by kernel_rfl
theorem H0:am Tryz.prog 26=1:=by kernel_rfl
theorem GB:bh Tryz.prog 26=(82,5):=by kernel_rfl
theorem BW:bv Tryz.prog 32 0=some 0:=by kernel_rfl
theorem Ht:bG Tryz.prog 22=false:=by kernel_rfl
theorem IQ:am Tryz.prog 22=1:=by kernel_rfl
theorem GL:bh Tryz.prog 22=(9,1):=by kernel_rfl
theorem AE:bv Tryz.prog 32 2=some 2:=by kernel_rfl
theorem Df:bv Tryz.prog 32 3=some 3:=by kernel_rfl
theorem Iu:bG Tryz.prog 24=false:=by kernel_rfl
theorem GA:am Tryz.prog 24=1:=by kernel_rfl
theorem Jh:bh Tryz.prog 24=(144,2):=by kernel_rfl
theorem CZ:bv Tryz.prog 32 8=some 8:=by kernel_rfl
theorem Hx:bG Tryz.prog 29=false:=by kernel_rfl
theorem Ip:am Tryz.prog 29=1:=by kernel_rfl
theorem HH:bh Tryz.prog 29=(149,2):=by kernel_rfl
theorem A1:bv Tryz.prog 32 9=some 9:=by kernel_rfl
theorem Id:bG Tryz.prog 30=false:=by kernel_rfl
theorem I2:am Tryz.prog 30=1:=by kernel_rfl
theorem Ii:bh Tryz.prog 30=(154,2):=by kernel_rfl
theorem Cz:bv Tryz.prog 32 1=some 1:=by kernel_rfl
theorem Hk:bG Tryz.prog 23=false:=by kernel_rfl
theorem GY:am Tryz.prog 23=1:=by kernel_rfl
theorem AP:bv Tryz.prog 78 2=some 2:=by kernel_rfl
theorem Jr:bG Tryz.prog 33=false:=by kernel_rfl
theorem GJ:am Tryz.prog 33=1:=by kernel_rfl
theorem Dn:bv Tryz.prog 80 3=some 3:=by kernel_rfl
theorem Cr:bv Tryz.prog 82 3=some 3:=by kernel_rfl
theorem GG:bG Tryz.prog 50=false:=by kernel_rfl
theorem I1:am Tryz.prog 50=1:=by kernel_rfl
theorem GK:cz Tryz.prog 41=some (62,6,112):=by kernel_rfl
theorem Jl:cn Tryz.prog 44=some ([(0,1),(1,1)],[Value.slice none 0 0,Value.slice none 0 0]):=by kernel_rfl
theorem GF:bh Tryz.prog 94=(99,8):=by kernel_rfl
theorem C2:bv Tryz.prog 99 2=some 2:=by kernel_rfl
theorem DB:bv Tryz.prog 99 0=some 0:=by kernel_rfl
theorem AI:bv Tryz.prog 99 1=some 1:=by kernel_rfl
theorem Es:cn Tryz.prog 101=some ([(0,1),(1,1),(2,1)],[Value.int IntKind.i64 0,Value.int IntKind.i64 0,Value.int IntKind.i64 0]):=by kernel_rfl
theorem Iq:cz Tryz.prog 96=some (101,3,24):=by kernel_rfl
theorem Iy:cz Tryz.prog 42=some (96,1,24):=by kernel_rfl
theorem I7:bh Tryz.prog 42=(96,1):=by kernel_rfl
theorem Il:bG Tryz.prog 96=false:=by kernel_rfl
theorem Ia:am Tryz.prog 96=1:=by kernel_rfl
theorem IH:bh Tryz.prog 96=(101,3):=by kernel_rfl
theorem yz:bv Tryz.prog 101 2=some 2:=by kernel_rfl
theorem Hm:cz Tryz.prog 33=some (56,7,56):=by kernel_rfl
theorem B4:bv Tryz.prog 62 0=some 0:=by kernel_rfl
theorem HV:bG Tryz.prog 60=true:=by kernel_rfl
theorem Ja:am Tryz.prog 60=2:=by kernel_rfl
theorem E3:cn Tryz.prog 106=some ([(0,1),(1,1),(2,1),(3,1),(4,1)],[Value.slice none 0 0,Value.int IntKind.i64 0,Value.int IntKind.i64 0,Value.slice none 0 0,Value.slice none 0 0]):=by kernel_rfl
theorem JU:bT Tryz.prog 3=some (Value.int IntKind.i64 0):=by kernel_rfl
theorem CJ:bv Tryz.prog 76 0=some 0:=by kernel_rfl
theorem J5:bG Tryz.prog 9=false:=by kernel_rfl
theorem JH:am Tryz.prog 9=1:=by kernel_rfl
theorem Dy:bv Tryz.prog 82 0=some 0:=by kernel_rfl
theorem ym:bv Tryz.prog 125 0=some 0:=by kernel_rfl
theorem Bk:bv Tryz.prog 80 0=some 0:=by kernel_rfl
theorem G6:cz Tryz.prog 22=some (9,1,16):=by kernel_rfl
theorem Hc:cn Tryz.prog 32=some ([(0,1),(1,1),(2,1),(3,1),(4,1),(5,1),(6,1),(7,1),(8,1),(9,1)],[Value.slice none 0 0,Value.slice none 0 0,Value.slice none 0 0,Value.slice none 0 0,Value.slice none 0 0,Value.slice none 0 0,Value.slice none 0 0,Value.slice none 0 0,Value.slice none 0 0,Value.slice none 0 0]):=by kernel_rfl
theorem Gs:bT Tryz.prog 32=some (Value.agg #[Value.slice none 0 0,Value.slice none 0 0,Value.slice none 0 0,Value.slice none 0 0,Value.slice none 0 0,Value.slice none 0 0,Value.slice none 0 0,Value.slice none 0 0,Value.slice none 0 0,Value.slice none 0 0]):=by kernel_rfl
theorem EF:cn Tryz.prog 128=some ([(0,1),(1,1)],[Value.int IntKind.i64 0,Value.int IntKind.i64 0]):=by kernel_rfl
theorem Jb:cz Tryz.prog 58=some (128,2,16):=by kernel_rfl
theorem I9:cn Tryz.prog 60=some ([(0,1),(1,1)],[Value.slice none 0 0,Value.slice none 0 0]):=by kernel_rfl
theorem Hn:cn Tryz.prog 62=some ([(0,2),(2,1),(3,1),(4,1),(5,1)],[Value.slice none 0 0,Value.slice none 0 0,Value.int IntKind.i64 0,Value.int IntKind.i64 0,Value.slice none 0 0,Value.slice none 0 0]):=by kernel_rfl
theorem FN:cn Tryz.prog 135=some ([(0,2),(2,10),(12,1)],[Value.pointer none,Value.slice none 0 0,Value.slice none 0 0,Value.slice none 0 0,Value.slice none 0 0,Value.slice none 0 0,Value.slice none 0 0,Value.slice none 0 0,Value.slice none 0 0,Value.slice none 0 0,Value.slice none 0 0,Value.slice none 0 0,Value.slice none 0 0]):=by kernel_rfl
theorem Cv:bv Tryz.prog 68 0=some 0:=by kernel_rfl
theorem HC:bT Tryz.prog 62=some (Value.agg #[Value.slice none 0 0,Value.slice none 0 0,Value.int IntKind.i64 0,Value.int IntKind.i64 0,Value.slice none 0 0,Value.slice none 0 0]):=by kernel_rfl
theorem Dq:bv Tryz.prog 68 1=some 1:=by kernel_rfl
theorem Eu:bG Tryz.prog 101=true:=by kernel_rfl
theorem Eo:am Tryz.prog 101=3:=by kernel_rfl
theorem EM:bT Tryz.prog 101=some (Value.agg #[Value.int IntKind.i64 0,Value.int IntKind.i64 0,Value.int IntKind.i64 0]):=by kernel_rfl
theorem ze:bv Tryz.prog 135 0=some 0:=by kernel_rfl
theorem yK:bv Tryz.prog 101 0=some 0:=by kernel_rfl
theorem yw:bv Tryz.prog 101 1=some 1:=by kernel_rfl
theorem y7:bv Tryz.prog 144 1=some 1:=by kernel_rfl
theorem y0:bv Tryz.prog 125 1=some 1:=by kernel_rfl
theorem I0:bG Tryz.prog 82=true:=by kernel_rfl
theorem ID:am Tryz.prog 82=5:=by kernel_rfl
theorem Jf:bT Tryz.prog 82=some (Value.agg #[Value.string ByteArray.empty,Value.int IntKind.i64 0,Value.int IntKind.i64 0,Value.slice none 0 0,Value.int IntKind.i64 0]):=by kernel_rfl
theorem AD:bv Tryz.prog 82 1=some 1:=by kernel_rfl
theorem Ci:bv Tryz.prog 82 2=some 2:=by kernel_rfl
theorem Hu:bG Tryz.prog 78=true:=by kernel_rfl
theorem GZ:am Tryz.prog 78=3:=by kernel_rfl
theorem Hv:bT Tryz.prog 78=some (Value.agg #[Value.int IntKind.i64 0,Value.int IntKind.i64 0,Value.slice none 0 0]):=by kernel_rfl
theorem Ch:bv Tryz.prog 78 0=some 0:=by kernel_rfl
theorem Dp:bv Tryz.prog 78 1=some 1:=by kernel_rfl
theorem I5:bG Tryz.prog 80=true:=by kernel_rfl
theorem Gy:am Tryz.prog 80=5:=by kernel_rfl
theorem Gp:bT Tryz.prog 80=some (Value.agg #[Value.string ByteArray.empty,Value.int IntKind.i64 0,Value.int IntKind.i64 0,Value.slice none 0 0,Value.bool false]):=by kernel_rfl
theorem A4:bv Tryz.prog 80 1=some 1:=by kernel_rfl
theorem BA:bv Tryz.prog 80 2=some 2:=by kernel_rfl
theorem yn:bv Tryz.prog 149 0=some 0:=by kernel_rfl
theorem y1:bv Tryz.prog 149 1=some 1:=by kernel_rfl
theorem BE:bv Tryz.prog 82 4=some 4:=by kernel_rfl
theorem Gr:cz Tryz.prog 30=some (154,2,16):=by kernel_rfl
theorem FH:bG Tryz.prog 154=true:=by kernel_rfl
theorem Fy:am Tryz.prog 154=2:=by kernel_rfl
theorem B1:bv Tryz.prog 56 1=some 1:=by kernel_rfl
theorem DQ:bv Tryz.prog 54 0=some 0:=by kernel_rfl
theorem CC:bv Tryz.prog 54 1=some 1:=by kernel_rfl
theorem Ki:bG Tryz.prog 2=false:=by kernel_rfl
theorem Kd:am Tryz.prog 2=1:=by kernel_rfl
theorem DS:bv Tryz.prog 56 2=some 3:=by kernel_rfl
theorem JX:vt Tryz.prog 2=Jy.int:=by kernel_rfl
theorem F3:bT Tryz.prog 106=some (Value.agg #[Value.slice none 0 0,Value.int IntKind.i64 0,Value.int IntKind.i64 0,Value.slice none 0 0,Value.slice none 0 0]):=by kernel_rfl
theorem EX:am Tryz.prog 106=5:=by kernel_rfl
theorem DJ:bv Tryz.prog 62 4=some 5:=by kernel_rfl
theorem Fm:bG Tryz.prog 106=true:=by kernel_rfl
theorem E1:bh Tryz.prog 159=(60,2):=by kernel_rfl
theorem Ib:cn Tryz.prog 99=some ([(0,1),(1,1),(2,6)],[Value.int IntKind.i64 0,Value.int IntKind.i64 0,Value.slice none 0 0,Value.slice none 0 0,Value.int IntKind.i64 0,Value.int IntKind.i64 0,Value.slice none 0 0,Value.slice none 0 0]):=by kernel_rfl
theorem HZ:bT Tryz.prog 99=some (Value.agg #[Value.int IntKind.i64 0,Value.int IntKind.i64 0,Value.slice none 0 0,Value.slice none 0 0,Value.int IntKind.i64 0,Value.int IntKind.i64 0,Value.slice none 0 0,Value.slice none 0 0]):=by kernel_rfl
theorem HJ:am Tryz.prog 99=8:=by kernel_rfl
theorem HR:bG Tryz.prog 99=true:=by kernel_rfl
theorem Jp:cz Tryz.prog 94=some (99,8,128):=by kernel_rfl
theorem Ig:bT Tryz.prog 56=some (Value.agg #[Value.int IntKind.i64 0,Value.int IntKind.i64 0,Value.int IntKind.i64 0,Value.int IntKind.i64 0,Value.int IntKind.i64 0,Value.int IntKind.i64 0,Value.int IntKind.i64 0]):=by kernel_rfl
theorem IO0:bG Tryz.prog 54=true:=by kernel_rfl
theorem HS:am Tryz.prog 54=2:=by kernel_rfl
theorem GD:cn Tryz.prog 54=some ([(0,1),(1,1)],[Value.int IntKind.i64 0,Value.int IntKind.i64 0]):=by kernel_rfl
theorem z8:bv Tryz.prog 106 1=some 1:=by kernel_rfl
theorem Ct:bv Tryz.prog 56 3=some 5:=by kernel_rfl
theorem Ao:bv Tryz.prog 106 2=some 2:=by kernel_rfl
theorem DL:bv Tryz.prog 56 4=some 6:=by kernel_rfl
theorem CE:bv Tryz.prog 62 1=some 2:=by kernel_rfl
theorem Ce:bv Tryz.prog 62 2=some 3:=by kernel_rfl
theorem CV:bv Tryz.prog 62 3=some 4:=by kernel_rfl
theorem zq:bv Tryz.prog 135 1=some 2:=by kernel_rfl
theorem zu:bv Tryz.prog 133 1=some 1:=by kernel_rfl
theorem FI:bG Tryz.prog 131=false:=by kernel_rfl
theorem EC:am Tryz.prog 131=1:=by kernel_rfl
theorem Ez:bT Tryz.prog 154=some (Value.agg #[Value.bool false,Value.int IntKind.i64 0]):=by kernel_rfl
theorem E5:cn Tryz.prog 154=some ([(0,1),(1,1)],[Value.bool false,Value.int IntKind.i64 0]):=by kernel_rfl
theorem zD:bv Tryz.prog 106 0=some 0:=by kernel_rfl
theorem zi:bv Tryz.prog 106 4=some 4:=by kernel_rfl
theorem zT:bv Tryz.prog 106 3=some 3:=by kernel_rfl
theorem GS:xq 23=false:=by kernel_rfl
theorem FY:cz Tryz.prog 159=some (60,2,48):=by kernel_rfl
theorem AO:bv Tryz.prog 60 0=some 0:=by kernel_rfl
theorem Gv:bG Tryz.prog 58=false:=by kernel_rfl
theorem IM:am Tryz.prog 58=1:=by kernel_rfl
theorem H5:bh Tryz.prog 58=(128,2):=by kernel_rfl
theorem Fd:bG Tryz.prog 128=true:=by kernel_rfl
theorem EV:am Tryz.prog 128=2:=by kernel_rfl
theorem D7:bT Tryz.prog 128=some (Value.agg #[Value.int IntKind.i64 0,Value.int IntKind.i64 0]):=by kernel_rfl
theorem Am:bv Tryz.prog 128 0=some 0:=by kernel_rfl
theorem yF:bv Tryz.prog 128 1=some 1:=by kernel_rfl
theorem DG:bv Tryz.prog 80 4=some 4:=by kernel_rfl
theorem C1:bv Tryz.prog 60 1=some 1:=by kernel_rfl
theorem G4:bT Tryz.prog 60=some (Value.agg #[Value.slice none 0 0,Value.slice none 0 0]):=by kernel_rfl
theorem FR:bh Tryz.prog 219=(221,2):=by kernel_rfl
theorem FQ:gm Tryz.prog 221=(2,1):=by kernel_rfl
theorem IA:cn Tryz.prog 56=some ([(0,1),(1,2),(3,2),(5,1),(6,1)],[Value.int IntKind.i64 0,Value.int IntKind.i64 0,Value.int IntKind.i64 0,Value.int IntKind.i64 0,Value.int IntKind.i64 0,Value.int IntKind.i64 0,Value.int IntKind.i64 0]):=by kernel_rfl
theorem HB:cz Tryz.prog 27=some (78,3,40):=by kernel_rfl
theorem GE:cz Tryz.prog 28=some (80,5,64):=by kernel_rfl
theorem yG:bv Tryz.prog 154 0=some 0:=by kernel_rfl
theorem yx:bv Tryz.prog 154 1=some 1:=by kernel_rfl
theorem Ae:bv Tryz.prog 135 2=some 12:=by kernel_rfl
theorem FM:cn Tryz.prog 221=some ([(0,1),(1,1)],[Value.int IntKind.i64 0,Value.int IntKind.i64 0]):=by kernel_rfl
theorem FJ:cz Tryz.prog 219=some (221,2,16):=by kernel_rfl
theorem J7:bT Tryz.prog 4=some (Value.bool false):=by kernel_rfl
theorem JT:bT Tryz.prog 2=some (Value.int IntKind.i64 0):=by kernel_rfl
end
section
def SC (P:Program) (c:Code) (Q:Exit -> ak -> Prop) (st:ak):Prop:=∀ (cx:Cx) (a:Act) (w:World) (L:Nat -> Value),aI cx a w st L -> c.wp P (np cx Q) a w
section
variable {P:Program} {x y:Code} {Q Q':Exit -> ak -> Prop} {st st':ak}
theorem dD (hm:P.follows .mixedOrders=true) (h:bC P x Q st):SC P x Q st:=fun cx a w L hc=>sG hm x Q a w st L hc h
theorem SC.mono (h:SC P x Q st) (hq:∀ e st,Q e st -> Q' e st):SC P x Q' st:=fun cx a w L hc=>Code.wp_mono (fun e a w ⟨st',L',h1,h2⟩=>⟨st',L',hq e st' h1,h2⟩) (h cx a w L hc)
theorem SC.weak (hw:dq st st') (h:SC P x Q st'):SC P x Q st:=fun cx a w L hc=>(hw cx a w L hc).elim fun L' hc'=>h cx a w L' hc'.1
theorem Gq (h:SC P x (mJ (SC P y Q) Q) st):SC P (.seq x y) Q st:=fun cx a w L hc=>
 wp_seq (Code.wp_mono (fun e a' w' ⟨st',L',h1,h2⟩=>by
  cases e with
  | normal=>exact h1 cx a' w' L' h2
  | _=>exact ⟨st',L',h1,h2⟩) (h cx a w L hc))
theorem cd {I:ak -> Prop} (hw:dq st st') (h:I st'):KI I st:=⟨st',hw,h⟩
theorem cX (I:ak -> Prop) (h:SC P x (mJ (KI I) Q) st) (h2:∀ st,I st -> SC P y Q st):SC P (.seq x y) Q st:=
 Gq (h.mono fun e st h=>by
  cases e with
  | normal=>
   obtain ⟨st',hw,hI⟩:=h;exact (h2 st' hI).weak hw
  | _=>exact h)
end
theorem lh {P : Program} {f : FuncId} {fn : Func} {c : Code} (hf : P.funcs[f]? = some fn) (hb : fn.body = some c) (hname : (fn.name == "runtime.NumGoroutine") = false) {args : List AV} {R : ce} {n : Nat} (hnt : fn.ntmps = n) {rs : List ResultVar} (hrs : fn.results = rs.toArray) (hn : Nat.ble args.length n = true)
  (hok:R.Ok) (h:SC P c (Bz P rs R) ⟨n,da 0 args,[],0⟩):aw P f args R:=o5 hf hb hname hnt hrs hn hok h
theorem wW {P : Program} {f : FuncId} {fn : Func} {c : Code} (hf : P.funcs[f]? = some fn) (hb : fn.body = some c) (hname : (fn.name == "runtime.NumGoroutine") = false) {args : List AV} {Post : ce → Prop} {n : Nat} (hnt : fn.ntmps = n) {rs : List ResultVar} (hrs : fn.results = rs.toArray) (hn : Nat.ble args.length n = true)
  (h:SC P c (tk P rs Post) ⟨n,da 0 args,[],0⟩):cT P f args Post:=lz hf hb hname hnt hrs hn h
theorem dx {P:Program} {f:FuncId} {args:List AV} {v:Value} (he:eL P f)
  (h:∀ (S:Nat -> Prop) (w:World) (vs:Array Value),Ax w S -> vs.size=args.length -> (∀ (j:Nat) (v:Value) (av:AV),vs[j]? = some v -> args[j]? = some av -> RT w S v av) -> Calls P f vs w fun e w'=>e=.returned v /\ Below w.heap.size w w'):aw P f args (val v):=
 ⟨he,fun S w vs h1 h2 h3=>(h S w vs h1 h2 h3).mono fun e w' ⟨h4,h5⟩=>⟨v,fun _=>undef,val v,rfl,aU v,h4,⟨mZ h5,fun id o h=>(by cases h),fun id id' o o' g h=>(by cases h),fun b hb=>hb.elim⟩,.tree (.c v)⟩⟩
theorem aw.calls {P:Program} {f:FuncId} {args:List AV} {v:Value} (h:aw P f args (val v)) {w:World} {vs:Array Value} (h2:vs.size=args.length) (h3:∀ (j:Nat) (v:Value) (av:AV),vs[j]? = some v -> args[j]? = some av -> RT w (fun b=>b<w.heap.size) v av) (hA:Ac w:=by exact amb_any _) :
  Calls P f vs w fun e w'=>e=.returned v /\ Below w.heap.size w w':=
 (h.2 _ w vs ⟨fun b hb=>hb,hA,fun b hb=>K1 hb hA.le⟩ h2 h3).mono fun e w' ⟨v',L,R,h0,_,h4,h5,h6⟩=>by
  subst h0;obtain rfl:=h6.c_inv;exact ⟨h4,h5.below.below fun b hb=>hb⟩
def gi (e:TypeId) (sz:Nat) (rows:List (List AV)):ce:=⟨.osl 0,[(0,some (.row e sz rows))],1⟩
theorem dB (e:TypeId) (sz:Nat) (rows:List (List AV)):(gi e sz rows).Ok:=by
 refine ⟨fun id o h=>?_,MY⟩;simp only [gi,aa.gc] at h;split at h
 .rename_i e;cases h;subst e;exact ⟨MY,trivial⟩
 .cases h
theorem bk {e:TypeId} {sz:Nat} {rows:List (List AV)} {st:ak} {id:Nat}:st.tab.get id=some (.row e sz rows) -> dW (gi e sz rows) st (.osl id):=fun h=>
 ⟨[id],by simp,rfl,⟨MY,⟨e,sz,rows,rfl⟩,h⟩,trivial⟩
theorem bZ {Post:ce -> Prop} {st:ak} {v:Value} (h:Post (val v)):∃ R,Post R /\ R.Ok /\ dW R st (.c v):=⟨_,h,aU v,qV rfl⟩
theorem xv {Post:ce -> Prop} {st:ak} {id:Nat} {e:TypeId} {sz:Nat} {rows:List (List AV)} (hg:st.tab.get id=some (.row e sz rows)) (h:Post (gi e sz rows)):∃ R,Post R /\ R.Ok /\ dW R st (.osl id):=⟨_,h,dB ..,bk hg⟩
theorem Bq {u:Option (Nat × List Nat)} {P:Program} {st:ak} {g:FuncId} {args:List AV} {K:AV -> ak -> Prop} {Post:ce -> Prop} (h:cT P g (args.map (f6 st.tab)) Post) (hk:∀ R,Post R -> (gb args \/ (R.r.plain /\ R.tab.plain)) /\ K (R.r.shift st.next) { st with tab:=R.tab.shift st.next ++ st.tab,next:=st.next+R.n }):fk u P st g args K:=.inl (.inl ⟨Post,h,hk⟩)
theorem pf {u:Option (Nat × List Nat)} {P:Program} {st:ak} {g:FuncId} {args:List AV} {K:AV -> ak -> Prop} {R:ce} (h:aw P g (args.map (f6 st.tab)) R) (ho:gb args \/ (R.r.plain /\ R.tab.plain)) (hk:K (R.r.shift st.next) { st with tab:=R.tab.shift st.next ++ st.tab,next:=st.next+R.n }):fk u P st g args K:=
 .inl (.inl ⟨_,h,fun R' e=>by subst e;exact ⟨ho,hk⟩⟩)
theorem aA {u:Option (Nat × List Nat)} {P:Program} {st:ak} {g:FuncId} {args:List AV} {dst:Option Nat} {K:ak -> Prop} {v:Value} (h:aw P g (args.map (f6 st.tab)) (val v)) (hk:K (st.put dst (.c v))):fk u P st g args (rQ dst K):=
 pf h (.inr ⟨trivial,trivial⟩) hk
def KK:=(And.intro (And.intro (And.intro (And.intro (And.intro (And.intro (And.intro @xp @wz) (And.intro @w9 @zO)) (And.intro (And.intro @wi @uk) (And.intro @wU @wM))) (And.intro (And.intro (And.intro @za @sn) (And.intro @wO @yP)) (And.intro (And.intro @oa @sZ) (And.intro @qq @xe)))) (And.intro (And.intro (And.intro (And.intro @A0 @HF) (And.intro @J3 @Iw)) (And.intro (And.intro @Gx @FP) (And.intro @zt @Aj))) (And.intro (And.intro (And.intro @yY @Dw) (And.intro @xj @vB)) (And.intro (And.intro @Aq @tV) (And.intro @td @w5))))) (And.intro (And.intro (And.intro (And.intro (And.intro @sT @qk) (And.intro @HW @Hs)) (And.intro (And.intro @HU @GM) (And.intro @A6 @yZ))) (And.intro (And.intro (And.intro @yA @w6) (And.intro @ti @Bg)) (And.intro (And.intro @wN @Ay) (And.intro @Dd @zd)))) (And.intro (And.intro (And.intro (And.intro @zk @FF) (And.intro @Hz @uo)) (And.intro (And.intro @EB @wc) (And.intro @Dh @Ft))) (And.intro (And.intro (And.intro @zg @y9) (And.intro @oS @qb)) (And.intro (And.intro @Ap @z7) (And.intro @uC (And.intro @y2 @yu))))))) (And.intro (And.intro (And.intro (And.intro (And.intro (And.intro @wG @wo) (And.intro @BG @EA)) (And.intro (And.intro @Db @yt) (And.intro @wJ @rZ))) (And.intro (And.intro (And.intro @yM @vZ) (And.intro @HA @Fh)) (And.intro (And.intro @yq @tS) (And.intro @xr @tb)))) (And.intro (And.intro (And.intro (And.intro @y6 @wZ) (And.intro @vJ @yU)) (And.intro (And.intro @u0 @sa) (And.intro @sy @rV))) (And.intro (And.intro (And.intro @zx @so) (And.intro @tr @tx)) (And.intro (And.intro @u1 @r3) (And.intro @rR @w8))))) (And.intro (And.intro (And.intro (And.intro (And.intro @zn @p5) (And.intro @t7 @y4)) (And.intro (And.intro @r2 @yS) (And.intro @su @vG))) (And.intro (And.intro (And.intro @uH @sR) (And.intro @wj @mQ)) (And.intro (And.intro @vC @wQ) (And.intro @xt @vh)))) (And.intro (And.intro (And.intro (And.intro @uP @yB) (And.intro @BH @qh)) (And.intro (And.intro @zP @vi) (And.intro @sK @nZ))) (And.intro (And.intro (And.intro @E7 @EK) (And.intro @vf @xl)) (And.intro (And.intro @t8 @qc) (And.intro @sL (And.intro @zX @D6))))))))
def KM:=(And.intro (And.intro (And.intro (And.intro (And.intro @aa.gc (And.intro @L8 @Nat.add_zero)) (And.intro (And.intro @MA @Mn) (And.intro @Mi @Mq))) (And.intro (And.intro (And.intro @Mc @Lq) (And.intro @KU @K3)) (And.intro (And.intro @List.drop_succ_cons.{0} @List.drop_zero.{0}) (And.intro @List.take_succ_cons.{0} @Lb)))) (And.intro (And.intro (And.intro (And.intro @List.headD_cons.{0} @Lg) (And.intro @Bool.not_true @MQ)) (And.intro (And.intro @true_and @and_true) (And.intro @Lm @Md))) (And.intro (And.intro (And.intro @LT @Ln) (And.intro @Nat.succ_ne_self @Nat.one_ne_zero)) (And.intro (And.intro @AV.c.injEq @Value.bool.injEq) (And.intro @Value.int.injEq @false_implies))))) (And.intro (And.intro (And.intro (And.intro (And.intro @Lp @Lc) (And.intro @Mr @Int.ofNat_lt)) (And.intro (And.intro @Int.ofNat_le @L9) (And.intro @not_false_eq_true @not_true_eq_false))) (And.intro (And.intro (And.intro @KW @false_and) (And.intro @and_false @Nat.succ_ne_zero)) (And.intro (And.intro @imp_self @true_implies) (And.intro @decide_true @decide_false)))) (And.intro (And.intro (And.intro (And.intro @Ms @Mt) (And.intro @KR @LR)) (And.intro (And.intro @List.not_mem_nil.{0} @or_false) (And.intro @Mh @LL))) (And.intro (And.intro (And.intro @LE @Option.map_none.{0,0}) (And.intro @Option.isSome_some.{0} @Option.isSome_none.{0})) (And.intro (And.intro @Mw @K7) (And.intro @true_or @or_true))))))
def iu:=(And.intro (And.intro (And.intro (And.intro @aa.gc @and_true) (And.intro @true_and (And.intro @AV.c.injEq @Value.int.injEq))) (And.intro (And.intro @Value.bool.injEq @Bool.not_true) (And.intro @MQ (And.intro @Nat.succ_ne_self @Nat.one_ne_zero)))) (And.intro (And.intro (And.intro @Nat.succ_ne_zero @not_true_eq_false) (And.intro @not_false_eq_true (And.intro @Mr @Mc))) (And.intro (And.intro @Lq (And.intro @Md @LT)) (And.intro @Ln (And.intro @decide_true @decide_false)))))
def B9:=And.intro KK (And.intro KM (And.intro (And.intro (And.intro (And.intro (And.intro (And.intro (And.intro (And.intro @a6.eq_1 (And.intro @a6.eq_2 @a6.eq_3)) (And.intro (And.intro @a6.eq_4 @mg.eq_1) (And.intro @iy.eq_1 @iy.eq_2))) (And.intro (And.intro (And.intro @iy.eq_3 @lE.eq_1) (And.intro @gT.eq_1 @gT.eq_2)) (And.intro (And.intro @gT.eq_3 @gT.eq_4) (And.intro @gT.eq_5 @oW.eq_1)))) (And.intro (And.intro (And.intro (And.intro @oW.eq_2 @oW.eq_3) (And.intro @oW.eq_4 @oW.eq_5)) (And.intro (And.intro @sg.eq_1 @sg.eq_2) (And.intro @sg.eq_3 @sg.eq_4))) (And.intro (And.intro (And.intro @ez.eq_1 @ez.eq_2) (And.intro @ez.eq_3 @ez.eq_4)) (And.intro (And.intro @ez.eq_5 @ez.eq_6) (And.intro @ez.eq_7 @ez.eq_8))))) (And.intro (And.intro (And.intro (And.intro @ez.eq_9 (And.intro @ez.eq_10 @ez.eq_11)) (And.intro (And.intro @ez.eq_12 @ez.eq_13) (And.intro @ez.eq_14 @ez.eq_15))) (And.intro (And.intro (And.intro @ez.eq_16 @ez.eq_17) (And.intro @ez.eq_18 @ez.eq_19)) (And.intro (And.intro @ez.eq_20 @ez.eq_21) (And.intro @ez.eq_22 @ez.eq_23)))) (And.intro (And.intro (And.intro (And.intro @ez.eq_24 @ez.eq_25) (And.intro @ez.eq_26 @ez.eq_27)) (And.intro (And.intro @ez.eq_28 @Io.eq_1) (And.intro @Io.eq_2 @Ge.eq_1))) (And.intro (And.intro (And.intro @Ge.eq_2 @Ge.eq_3) (And.intro @Ge.eq_4 @Ge.eq_5)) (And.intro (And.intro @iz.eq_1 @iz.eq_2) (And.intro @ak.get.eq_1 @bl.eq_1)))))) (And.intro (And.intro (And.intro (And.intro (And.intro @bl.eq_2 (And.intro @ak.put.eq_1 @ak.put.eq_2)) (And.intro (And.intro @mL.eq_1 @mL.eq_2) (And.intro @rY.eq_1 @iB.eq_1))) (And.intro (And.intro (And.intro @db.eq_1 @jw.eq_1) (And.intro @p4.eq_1 @p4.eq_2)) (And.intro (And.intro @iM.eq_1 @iM.eq_2) (And.intro @pt.eq_1 @pt.eq_2)))) (And.intro (And.intro (And.intro (And.intro @pt.eq_3 @xY.eq_1) (And.intro @xY.eq_2 @yv.eq_1)) (And.intro (And.intro @yv.eq_2 @al.eq_1) (And.intro @al.eq_2 @al.eq_3))) (And.intro (And.intro (And.intro @pC.eq_1 @pC.eq_2) (And.intro @pC.eq_3 @pC.eq_4)) (And.intro (And.intro @pC.eq_5 @pC.eq_6) (And.intro @pC.eq_7 @pC.eq_8))))) (And.intro (And.intro (And.intro (And.intro (And.intro @dr.eq_1 @dr.eq_2) (And.intro @b7.eq_1 @b7.eq_2)) (And.intro (And.intro @b7.eq_3 @b7.eq_4) (And.intro @b7.eq_5 @b7.eq_6))) (And.intro (And.intro (And.intro @b7.eq_7 @bu.eq_1) (And.intro @bu.eq_2 @k7.eq_1)) (And.intro (And.intro @k7.eq_2 @Fe) (And.intro @DU @tR.eq_1)))) (And.intro (And.intro (And.intro (And.intro @tR.eq_2 @mE.eq_1) (And.intro @mE.eq_2 @mE.eq_3)) (And.intro (And.intro @tW.eq_1 @tW.eq_2) (And.intro @tW.eq_3 @tW.eq_4))) (And.intro (And.intro (And.intro @bq.eq_1 @bq.eq_2) (And.intro @Go.Value.cells.eq_1 @Go.Value.cells.eq_2)) (And.intro (And.intro @Go.Value.oneCell'.eq_1 @Go.Value.oneCell'.eq_2) (And.intro @Go.Value.oneCell'.eq_3 @da.eq_1))))))) (And.intro (And.intro (And.intro (And.intro (And.intro (And.intro @da.eq_2 (And.intro @cy.eq_1 @cy.eq_2)) (And.intro (And.intro @cy.eq_3 @iZ.eq_1) (And.intro @iZ.eq_2 @f6.eq_1))) (And.intro (And.intro (And.intro @f6.eq_2 @f6.eq_3) (And.intro @f6.eq_4 @f6.eq_5)) (And.intro (And.intro @f6.eq_6 @f6.eq_7) (And.intro @f6.eq_8 @f6.eq_9)))) (And.intro (And.intro (And.intro (And.intro @f6.eq_10 @eX.eq_1) (And.intro @eX.eq_2 @eX.eq_3)) (And.intro (And.intro @eX.eq_4 @eX.eq_5) (And.intro @eX.eq_6 @eX.eq_7))) (And.intro (And.intro (And.intro @eX.eq_8 @eX.eq_9) (And.intro @eX.eq_10 @ig.eq_1)) (And.intro (And.intro @ig.eq_2 @ig.eq_3) (And.intro @ig.eq_4 @ig.eq_5))))) (And.intro (And.intro (And.intro (And.intro @ig.eq_6 (And.intro @ig.eq_7 @ig.eq_8)) (And.intro (And.intro @ig.eq_9 @ig.eq_10) (And.intro @vw.eq_1 @vw.eq_2))) (And.intro (And.intro (And.intro @mr.eq_1 @oB.eq_1) (And.intro @oB.eq_2 @m7.eq_1)) (And.intro (And.intro @m7.eq_2 @sd.eq_1) (And.intro @sd.eq_2 @uu.eq_1)))) (And.intro (And.intro (And.intro (And.intro @uu.eq_2 @uu.eq_3) (And.intro @sS.eq_1 @sS.eq_2)) (And.intro (And.intro @gG.eq_1 @gG.eq_2) (And.intro @fr.eq_1 @Jz.eq_1))) (And.intro (And.intro (And.intro @Jz.eq_2 @kh.eq_1) (And.intro @kh.eq_2 @kh.eq_3)) (And.intro (And.intro @nT.eq_1 @nT.eq_2) (And.intro @nB.eq_1 @nB.eq_2)))))) (And.intro (And.intro (And.intro (And.intro (And.intro @mh.eq_1 (And.intro @mh.eq_2 @mh.eq_3)) (And.intro (And.intro @mh.eq_4 @mh.eq_5) (And.intro @lw.eq_1 @lw.eq_2))) (And.intro (And.intro (And.intro @lw.eq_3 @lw.eq_4) (And.intro @el.eq_1 @el.eq_2)) (And.intro (And.intro @gx.eq_1 @fM.eq_1) (And.intro @fM.eq_2 @fM.eq_3)))) (And.intro (And.intro (And.intro (And.intro @AV.frz.eq_1 @AV.frz.eq_2) (And.intro @AV.frz.eq_3 @AV.frz.eq_4)) (And.intro (And.intro @AV.frz.eq_5 @AV.frz.eq_6) (And.intro @AV.frz.eq_7 @AV.frz.eq_8))) (And.intro (And.intro (And.intro @AV.frz.eq_9 @AV.frz.eq_10) (And.intro @AV.frzL.eq_1 @AV.frzL.eq_2)) (And.intro (And.intro @f9.eq_1 @f9.eq_2) (And.intro @AV.shift.eq_1 @AV.shift.eq_2))))) (And.intro (And.intro (And.intro (And.intro (And.intro @AV.shift.eq_3 @AV.shift.eq_4) (And.intro @AV.shift.eq_5 @AV.shift.eq_6)) (And.intro (And.intro @AV.shift.eq_7 @AV.shift.eq_8) (And.intro @AV.shift.eq_9 @AV.shift.eq_10))) (And.intro (And.intro (And.intro @AV.shiftL.eq_1 @AV.shiftL.eq_2) (And.intro @oA.eq_1 @jd.eq_1)) (And.intro (And.intro @jd.eq_2 @md.eq_1) (And.intro @md.eq_2 @j7.eq_1)))) (And.intro (And.intro (And.intro (And.intro @j7.eq_2 @j7.eq_3) (And.intro @oz.eq_1 @oz.eq_2)) (And.intro (And.intro @oc.eq_1 @oc.eq_2) (And.intro @Aw.eq_1 @Aw.eq_2))) (And.intro (And.intro (And.intro @Aw.eq_3 @yL.eq_1) (And.intro @yL.eq_2 @yL.eq_3)) (And.intro (And.intro @f5.eq_1 @f5.eq_2) (And.intro @ry.eq_1 @bK.eq_1)))))))) (And.intro (And.intro (And.intro (And.intro (And.intro (And.intro (And.intro @bK.eq_2 (And.intro @ar.frz.eq_1 @ar.frz.eq_2)) (And.intro (And.intro @ar.frz.eq_3 @ar.frz.eq_4) (And.intro @ar.frz.eq_5 @Gb.eq_1))) (And.intro (And.intro (And.intro @Gb.eq_2 @ux.eq_1) (And.intro @ux.eq_2 @ux.eq_3)) (And.intro (And.intro @iP.eq_1 @uS.eq_1) (And.intro @uS.eq_2 @uS.eq_3)))) (And.intro (And.intro (And.intro (And.intro @qu.eq_1 @qu.eq_2) (And.intro @pX.eq_1 @pX.eq_2)) (And.intro (And.intro @kM.eq_1 @kM.eq_2) (And.intro @jk.eq_1 @jk.eq_2))) (And.intro (And.intro (And.intro @ox.eq_1 @ox.eq_2) (And.intro @sP.eq_1 @sP.eq_2)) (And.intro (And.intro @sP.eq_3 @ke.eq_1) (And.intro @ke.eq_2 @false_or))))) (And.intro (And.intro (And.intro (And.intro @DC.eq_1 (And.intro @DC.eq_2 @DY.eq_def)) (And.intro (And.intro @nQ.eq_def @xi.eq_def) (And.intro @eq_self.{1} @ne_eq.{1}))) (And.intro (And.intro (And.intro @implies_true.{1} @implies_true.{0}) (And.intro @forall_const.{1} @forall_const.{0})) (And.intro (And.intro @IX @Jq) (And.intro @Ho @Kb)))) (And.intro (And.intro (And.intro (And.intro @Iv @Iz) (And.intro @IK @Gt)) (And.intro (And.intro @Je @Jt) (And.intro @IT @GI))) (And.intro (And.intro (And.intro @DM @Ka) (And.intro @JD @C4)) (And.intro (And.intro @Jg @HG) (And.intro @II @Ih)))))) (And.intro (And.intro (And.intro (And.intro (And.intro @He (And.intro @HO @Ir)) (And.intro (And.intro @GR @JK) (And.intro @Jn @J8))) (And.intro (And.intro (And.intro @Ji @GX) (And.intro @BF @G8)) (And.intro (And.intro @IL @Hq) (And.intro @JY @IY)))) (And.intro (And.intro (And.intro (And.intro @Ic @Dc) (And.intro @GN @GH)) (And.intro (And.intro @Jm @Bh) (And.intro @Gw @GU))) (And.intro (And.intro (And.intro @GV @AF) (And.intro @It @I8)) (And.intro (And.intro @IR @CP) (And.intro @Gu @H0))))) (And.intro (And.intro (And.intro (And.intro (And.intro @GB @BW) (And.intro @Ht @IQ)) (And.intro (And.intro @GL @AE) (And.intro @Df @Iu))) (And.intro (And.intro (And.intro @GA @Jh) (And.intro @CZ @Hx)) (And.intro (And.intro @Ip @HH) (And.intro @A1 @Id)))) (And.intro (And.intro (And.intro (And.intro @I2 @Ii) (And.intro @Cz @Hk)) (And.intro (And.intro @GY @AP) (And.intro @Jr @GJ))) (And.intro (And.intro (And.intro @Dn @Cr) (And.intro @GG @I1)) (And.intro (And.intro @GK @Jl) (And.intro @GF @C2))))))) (And.intro (And.intro (And.intro (And.intro (And.intro (And.intro @DB (And.intro @AI @Es)) (And.intro (And.intro @Iq @Iy) (And.intro @I7 @Il))) (And.intro (And.intro (And.intro @Ia @IH) (And.intro @yz @Hm)) (And.intro (And.intro @B4 @HV) (And.intro @Ja @E3)))) (And.intro (And.intro (And.intro (And.intro @JU @CJ) (And.intro @J5 @JH)) (And.intro (And.intro @Dy @ym) (And.intro @Bk @G6))) (And.intro (And.intro (And.intro @Hc @Gs) (And.intro @EF @Jb)) (And.intro (And.intro @I9 @Hn) (And.intro @FN @Cv))))) (And.intro (And.intro (And.intro (And.intro @HC (And.intro @Dq @Eu)) (And.intro (And.intro @Eo @EM) (And.intro @ze @yK))) (And.intro (And.intro (And.intro @yw @y7) (And.intro @y0 @I0)) (And.intro (And.intro @ID @Jf) (And.intro @AD @Ci)))) (And.intro (And.intro (And.intro (And.intro @Hu @GZ) (And.intro @Hv @Ch)) (And.intro (And.intro @Dp @I5) (And.intro @Gy @Gp))) (And.intro (And.intro (And.intro @A4 @BA) (And.intro @yn @y1)) (And.intro (And.intro @BE @Gr) (And.intro @FH @Fy)))))) (And.intro (And.intro (And.intro (And.intro (And.intro @B1 (And.intro @DQ @CC)) (And.intro (And.intro @Ki @Kd) (And.intro @DS @JX))) (And.intro (And.intro (And.intro @F3 @EX) (And.intro @DJ @Fm)) (And.intro (And.intro @E1 @Ib) (And.intro @HZ @HJ)))) (And.intro (And.intro (And.intro (And.intro @HR @Jp) (And.intro @Ig @IO0)) (And.intro (And.intro @HS @GD) (And.intro @z8 @Ct))) (And.intro (And.intro (And.intro @Ao @DL) (And.intro @CE @Ce)) (And.intro (And.intro @CV @zq) (And.intro @zu @FI))))) (And.intro (And.intro (And.intro (And.intro (And.intro @EC @Ez) (And.intro @E5 @zD)) (And.intro (And.intro @zi @zT) (And.intro @GS @FY))) (And.intro (And.intro (And.intro @AO @Gv) (And.intro @IM @H5)) (And.intro (And.intro @Fd @EV) (And.intro @D7 @Am)))) (And.intro (And.intro (And.intro (And.intro @yF @DG) (And.intro @C1 @G4)) (And.intro (And.intro @FR @FQ) (And.intro @IA @HB))) (And.intro (And.intro (And.intro @GE @yG) (And.intro @yx @Ae)) (And.intro (And.intro @FM @FJ) (And.intro @J7 @JT))))))))))
theorem kf {a b:Prop} (x:a) (y:b):a /\ b:=⟨x,y⟩
theorem go {a b:Prop} (hb:b) (h:a=b:=by simp -implicitDefEqProofs (maxSteps:=5000000) only [B9,↓reduceIte,reduceCtorEq,Nat.reduceLT,Nat.reduceEqDiff,Nat.reduceAdd,Nat.reduceMul,Nat.reduceSub,Nat.reduceLeDiff,Nat.reduceBEq]<;>exact rfl):a:=Eq.mpr h hb
theorem ge {E a b:Prop} (e:E) (hb:b) (h:E -> a=b:=by intro e;simp -implicitDefEqProofs (maxSteps:=5000000) only [B9,↓reduceIte,reduceCtorEq,Nat.reduceLT,Nat.reduceEqDiff,Nat.reduceAdd,Nat.reduceMul,Nat.reduceSub,Nat.reduceLeDiff,Nat.reduceBEq,e]<;>exact rfl):a:=Eq.mpr (h e) hb
theorem gq {a b:Prop} (hb:b) (h:b -> a:=by first|with_reducible exact aD (by kernel_rfl)|exact Eq.mpr (by simp -implicitDefEqProofs (maxSteps:=5000000) only [B9,↓reduceIte,reduceCtorEq,Nat.reduceLT,Nat.reduceEqDiff,Nat.reduceAdd,Nat.reduceMul,Nat.reduceSub,Nat.reduceLeDiff,Nat.reduceBEq]<;>exact rfl)):a:=h hb
theorem gf {E a b:Prop} (e:E) (hb:b) (h:E -> b -> a:=by intro e;first|with_reducible exact aD (by kernel_rfl)|exact Eq.mpr (by simp -implicitDefEqProofs (maxSteps:=5000000) only [B9,↓reduceIte,reduceCtorEq,Nat.reduceLT,Nat.reduceEqDiff,Nat.reduceAdd,Nat.reduceMul,Nat.reduceSub,Nat.reduceLeDiff,Nat.reduceBEq,e]<;>exact rfl)):a:=h e hb
theorem cA {p a b:Prop} (x:a) (y:b) (h:a -> b -> p:=by intro x y;first|((with_reducible apply aA);exact x;exact y)|((with_reducible apply aZ);exact x;exact y)|((with_reducible apply dU);exact x;exact .inl (by simp [gb,iv,bu,b7]);exact y)):p:=h x y
theorem ro {p q:Prop} (h:p:=by simp [gb,iv,bu,b7]):p \/ q:=.inl h
theorem sp {p a b:Prop} (ha:a) (hb:b) (h:a -> b -> p:=by with_reducible first|exact iW|exact xg|exact qr):p:=h ha hb
theorem wC {st:ak} {n nx:Nat} {env:List (Nat × AV)} {tab:aa} (h:st.n=n /\ (jU st env /\ jW st tab) /\ cS nx env /\ cg nx tab:=by (first|((simp only [jU,jW,cS,cg,ar.lt,AV.lt,AV.ltL,iu,ak.get,bl,ak.put,↓reduceIte,reduceCtorEq,Nat.reduceLT,Nat.reduceEqDiff,Nat.reduceAdd,Nat.reduceLeDiff,eq_self,implies_true])<;>(repeat' apply And.intro)<;>first|(rw [mc (by omega)];done)|(simp;done)|omega)|fail)):dq st ⟨n,env,tab,nx⟩:=iT h
theorem wE {st:ak} {n nx:Nat} {env:List (Nat × AV)} {tab:aa} {E:Prop} (e:E) (h:E -> st.n=n /\ (jU st env /\ jW st tab) /\ cS nx env /\ cg nx tab:=by intro e;(first|((simp only [jU,jW,cS,cg,ar.lt,AV.lt,AV.ltL,iu,ak.get,bl,ak.put,↓reduceIte,reduceCtorEq,Nat.reduceLT,Nat.reduceEqDiff,Nat.reduceAdd,Nat.reduceLeDiff,eq_self,implies_true,e])<;>(repeat' apply And.intro)<;>first|(rw [mc (by omega)];done)|(simp;done)|omega)|fail)):dq st ⟨n,env,tab,nx⟩:=iT (h e)
theorem wR {st:ak} {n nx:Nat} {env:List (Nat × AV)} {tab:aa} (ids:List Nat) (h0:ids.Nodup:=by decide) (h:st.n=n /\ (il st ids env /\ gM st ids tab) /\ cS nx env /\ cg nx tab:=by (first|((simp only [il,gM,cS,cg,ar.lt,AV.lt,AV.ltL,AV.ren,AV.renL,ar.ren,MD,MN,KU,K3,iu,ak.get,bl,ak.put,↓reduceIte,reduceCtorEq,Nat.reduceLT,Nat.reduceEqDiff,Nat.reduceAdd,Nat.reduceLeDiff,eq_self,implies_true])<;>(repeat' apply And.intro)<;>first|(rw [mc (by omega)];done)|(simp;done)|omega)|fail)):dq st ⟨n,env,tab,nx⟩:=kI ids ⟨h0,h⟩
theorem wS {st:ak} {n nx:Nat} {env:List (Nat × AV)} {tab:aa} {E:Prop} (ids:List Nat) (e:E) (h0:ids.Nodup:=by decide) (h:E -> st.n=n /\ (il st ids env /\ gM st ids tab) /\ cS nx env /\ cg nx tab:=by intro e;(first|((simp only [il,gM,cS,cg,ar.lt,AV.lt,AV.ltL,AV.ren,AV.renL,ar.ren,MD,MN,KU,K3,iu,ak.get,bl,ak.put,↓reduceIte,reduceCtorEq,Nat.reduceLT,Nat.reduceEqDiff,Nat.reduceAdd,Nat.reduceLeDiff,eq_self,implies_true,e])<;>(repeat' apply And.intro)<;>first|(rw [mc (by omega)];done)|(simp;done)|omega)|fail)):dq st ⟨n,env,tab,nx⟩:=kI ids ⟨h0,h e⟩
theorem rI {I:ak -> Prop} {μ:ak -> Nat} {n:Nat} {st st':ak} (hw:dq st st') (hI:I st') (hm:μ st'<n:=by simp only [ap,iu,ak.get,bl,ak.put,↓reduceIte,reduceCtorEq,Nat.reduceLT,Nat.reduceEqDiff,Nat.reduceAdd,Nat.reduceLeDiff,eq_self,implies_true];omega):sr I μ n st:=fZ hw hI hm
end
section
theorem dQ {P : Program} {f : FuncId} {fn : Func} {c : Code} (hf : P.funcs[f]? = some fn) (hb : fn.body = some c) (hname : (fn.name == "runtime.NumGoroutine") = false) : eL P f := fun args w => by
 have : ¬ fn.name = "runtime.NumGoroutine" := by simpa using hname
 simp [callFunc,Sem.run_bind,hf,this,hb]
theorem B2 {w:World} {S:Nat -> Prop} {v u:Value} (h:RT w S v (.c u)):v=u:=by cases h;rfl
theorem be {nx:Nat}:∀ {l:List AV},bu l -> AV.ltL nx l
 | [],_=>trivial
 | a :: l,h=>⟨by
   have:=h.1;cases a<;>first|trivial|exact this.elim,be h.2⟩
theorem dU {u:Option (Nat × List Nat)} {P:Program} {st:ak} {g:FuncId} {args:List AV} {K:AV -> ak -> Prop} {r:AV} (h:aw P g (args.map (f6 st.tab)) ⟨r,[],0⟩) (ho:gb args \/ r.plain) (hk:K (r.shift st.next) st):fk u P st g args K:=
 pf h (ho.imp id fun h=>⟨h,trivial⟩) hk
theorem eU {α β:Type} (f:α -> β) (l:List α) {k:Nat} (h:k<l.length):(l.take (k+1)).map f=(l.take k).map f ++ [f l[k]]:=by
 rw [ML,KN h,Lr];rfl
theorem iU {u:Option (Nat × List Nat)} {P:Program} {st:ak} {g:FuncId} {args:List AV} {K:AV -> ak -> Prop} {e:TypeId} {sz:Nat} {rows:List (List AV)} (h:aw P g (args.map (f6 st.tab)) (gi e sz rows)) (ho:gb args \/ ∀ row ∈ rows,∀ av ∈ row,av.plain) (hk:K (.osl st.next) ⟨st.n,st.env,(st.next,some (.row e sz rows)) :: st.tab,st.next+1⟩):fk u P st g args K:=
 pf h (ho.imp id fun h=>⟨trivial,h,trivial⟩) (by
  have e1:(gi e sz rows).r.shift st.next=.osl st.next:=by simp [gi,AV.shift]
  have e2:(gi e sz rows).tab.shift st.next=[(st.next,some (.row e sz rows))]:=by simp [gi,aa.shift,ar.shift]
  rw [e1,e2];exact hk)
theorem eJ {l:List Int}:∀ row ∈ l.map (fun n=>[eI n]),∀ av ∈ row,av.plain:=fun row hr av ha=>by
 obtain ⟨n,_,rfl⟩:=K8.1 hr;simp at ha;subst ha;trivial
theorem yp {α β:Type} (f:β -> α -> β) (b:β) (l:List α) {k:Nat} (h:k<l.length):(l.take (k+1)).foldl f b=f ((l.take k).foldl f b) l[k]:=by
 rw [ML,KN h,List.foldl_append];rfl
inductive nK:AV -> AV -> Prop
 | refl (a:AV):nK a a
 | nil (sz:Nat):nK (.c (.slice none 0 0)) (.sl sz [])
def mS:List AV -> List AV -> Prop
 | [],[]=>True
 | a :: l,b :: l'=>nK a b /\ mS l l'
 | _,_=>False
def lT:List (List AV) -> List (List AV) -> Prop
 | [],[]=>True
 | a :: l,b :: l'=>mS a b /\ lT l l'
 | _,_=>False
inductive nJ:AV -> AV -> Prop
 | refl (a:AV):nJ a a
 | nil (sz:Nat):nJ (.c (.slice none 0 0)) (.sl sz [])
 | rows {sz:Nat} {r r':List (List AV)} (h:lT r r'):nJ (.sl sz r) (.sl sz r')
def ug:List AV -> List AV -> Prop
 | [],[]=>True
 | a :: l,b :: l'=>nJ a b /\ ug l l'
 | _,_=>False
inductive o9:AV -> AV -> Prop
 | one {a b:AV} (h:nJ a b):o9 a b
 | agg {l l':List AV} (h:ug l l'):o9 (.agg l) (.agg l')
def mW:List AV -> List AV -> Prop
 | [],[]=>True
 | a :: l,b :: l'=>o9 a b /\ mW l l'
 | _,_=>False
theorem nK.rt {w:World} {S:Nat -> Prop} {v:Value} {a b:AV} (h:nK a b) (hr:RT w S v a):RT w S v b:=by
 cases h with
 | refl=>exact hr
 | nil sz=>
  rw [B2 hr];exact .sl none 0 0 sz [] 0 0 (fun _ _=>undef) rfl (KW _) (by omega) (fun h=>by omega) (by simp) (fun h=>by omega) (by simp) (by simp)
theorem mS.spec:∀ {l l':List AV},mS l l' -> l.length=l'.length /\ ∀ (j:Nat) (b:AV),l'[j]? = some b -> ∃ a,l[j]? = some a /\ nK a b
 | [],[],_=>⟨rfl,fun j b h=>by simp at h⟩
 | a :: l,b :: l',h=>by
  obtain ⟨h1,h2⟩:=mS.spec h.2;refine ⟨by simp [h1],fun j b' h3=>?_⟩
  cases j with
  | zero=>
   simp at h3;subst h3;exact ⟨a,rfl,h.1⟩
  | succ j=>exact h2 j b' (by simpa using h3)
 | [],_ :: _,h=>h.elim
 | _ :: _,[],h=>h.elim
theorem lT.spec:∀ {l l':List (List AV)},lT l l' -> l.length=l'.length /\ ∀ (j:Nat) (b:List AV),l'[j]? = some b -> ∃ a,l[j]? = some a /\ mS a b
 | [],[],_=>⟨rfl,fun j b h=>by simp at h⟩
 | a :: l,b :: l',h=>by
  obtain ⟨h1,h2⟩:=lT.spec h.2;refine ⟨by simp [h1],fun j b' h3=>?_⟩
  cases j with
  | zero=>
   simp at h3;subst h3;exact ⟨a,rfl,h.1⟩
  | succ j=>exact h2 j b' (by simpa using h3)
 | [],_ :: _,h=>h.elim
 | _ :: _,[],h=>h.elim
theorem nJ.rt {w:World} {S:Nat -> Prop} {v:Value} {a b:AV} (h:nJ a b) (hr:RT w S v a):RT w S v b:=by
 cases h with
 | refl=>exact hr
 | nil sz=>exact (nK.nil sz).rt hr
 | rows h=>
  rename_i sz r r';obtain ⟨hl,hx⟩:=h.spec
  cases hr with
  | sl A n cap sz rows b o U hn hc hm hA hs hcell hone hr=>
   have key:∀ i j row' av',r'[i]? = some row' -> row'[j]? = some av' -> ∃ row av,r[i]? = some row /\ row[j]? = some av /\ nK av av':=fun i j row' av' h1 h2=>by
    obtain ⟨row,h3,h4⟩:=hx i row' h1;obtain ⟨av,h5,h6⟩:=h4.spec.2 j av' h2;exact ⟨row,av,h3,h5,h6⟩
   refine .sl A n cap sz r' b o U (hn.trans hl) hc hm hA (fun row' hrow=>?_) (fun h0 i j row' av' h1 h2=>?_) (fun i j row' av' h1 h2=>?_) (fun i j row' av' h1 h2=>?_)
   .obtain ⟨i,hi⟩:=LO hrow;obtain ⟨row,h3,h4⟩:=hx i row' hi;rw [<- h4.spec.1];exact hs row (KO h3)
   .obtain ⟨row,av,h3,h4,_⟩:=key i j row' av' h1 h2;exact hcell h0 i j row av h3 h4
   .obtain ⟨row,av,h3,h4,_⟩:=key i j row' av' h1 h2;exact hone i j row av h3 h4
   .obtain ⟨row,av,h3,h4,h5⟩:=key i j row' av' h1 h2;exact h5.rt (hr i j row av h3 h4)
theorem ug.spec:∀ {l l':List AV},ug l l' -> l.length=l'.length /\ ∀ (j:Nat) (a b:AV),l[j]? = some a -> l'[j]? = some b -> nJ a b
 | [],[],_=>⟨rfl,fun j a b h=>by simp at h⟩
 | a :: l,b :: l',h=>by
  obtain ⟨h1,h2⟩:=ug.spec h.2;refine ⟨by simp [h1],fun j a' b' h3 h4=>?_⟩
  cases j with
  | zero=>
   simp at h3 h4;subst h3 h4;exact h.1
  | succ j=>exact h2 j a' b' (by simpa using h3) (by simpa using h4)
 | [],_ :: _,h=>h.elim
 | _ :: _,[],h=>h.elim
theorem o9.rt {w:World} {S:Nat -> Prop} {v:Value} {a b:AV} (h:o9 a b) (hr:RT w S v a):RT w S v b:=by
 cases h with
 | one h=>exact h.rt hr
 | agg h=>
  obtain ⟨hl,hx⟩:=h.spec
  cases hr with
  | agg xs cs hn hc=>
   refine .agg xs _ (hn.trans hl) fun j x av h1 h2=>?_;rename_i l l';have hj:j<l'.length:=(KS.1 h2).1;obtain ⟨a,ha⟩:∃ a,l[j]? = some a:=⟨_,KN (by omega)⟩;exact (hx j a av ha h2).rt (hc j x a h1 ha)
theorem mW.spec:∀ {l l':List AV},mW l l' -> l.length=l'.length /\ ∀ (j:Nat) (a b:AV),l[j]? = some a -> l'[j]? = some b -> o9 a b
 | [],[],_=>⟨rfl,fun j a b h=>by simp at h⟩
 | a :: l,b :: l',h=>by
  obtain ⟨h1,h2⟩:=mW.spec h.2;refine ⟨by simp [h1],fun j a' b' h3 h4=>?_⟩
  cases j with
  | zero=>
   simp at h3 h4;subst h3 h4;exact h.1
  | succ j=>exact h2 j a' b' (by simpa using h3) (by simpa using h4)
 | [],_ :: _,h=>h.elim
 | _ :: _,[],h=>h.elim
theorem aw.fits {P:Program} {f:FuncId} {args args':List AV} {R:ce} (h:aw P f args' R) (hf:mW args args'):aw P f args R:=
 ⟨h.1,fun S w vs h1 h2 h3=>h.2 S w vs h1 (h2.trans hf.spec.1) fun j v av h4 h5=>by
  have hj:j<args'.length:=(KS.1 h5).1;obtain ⟨a,ha⟩:∃ a,args[j]? = some a:=⟨_,KN (by rw [hf.spec.1];exact hj)⟩;exact (hf.spec.2 j a av ha h5).rt (h3 j v a h4 ha)⟩
theorem jE {u:Option (Nat × List Nat)} {P:Program} {st:ak} {g:FuncId} {args:List AV} {dst:Option Nat} {K:ak -> Prop} {Q:Bool -> Prop} (h:cT P g (args.map (f6 st.tab)) fun R=>∃ b,R=val (.bool b) /\ Q b) (hk:∀ b,Q b -> K (st.put dst (.c (.bool b)))):fk u P st g args (rQ dst K):=
 Bq h fun R ⟨b,hR,hq⟩=>by subst hR;exact ⟨.inr ⟨trivial,trivial⟩,hk b hq⟩
section
variable {P:Program} {w:World} {d:Nat} {xs ys:Array Value} {f:Field} {fs:List Field}
theorem Bv {x y : Value} {b : Bool} {u : TypeDesc} (hn : f.name ≠ "_") (hu : P.underlying f.type = some u) (hs : ∀ fs, u ≠ .struct fs) (ha : ∀ n e, u ≠ .array n e) (hx : xs[f.offset]? = some x) (hy : ys[f.offset]? = some y) (he : (Op.equalIn d f.type x y).run P w = .ok b w) : (Op.eqFields d xs ys (f :: fs)).run P w = if b = true then (Op.eqFields d xs ys fs).run P w else .ok false w := by
 have hp:∀ (zs:Array Value) (z:Value),zs[f.offset]? = some z -> (part f.type zs f.offset).run P w=.ok z w:=fun zs z hz=>by
  simp only [part,Sem.run_bind,isAgg,run_underlying hu,Result.andThen_ok]
  cases u with
  | struct fs=>exact absurd rfl (hs fs)
  | array n e=>exact absurd rfl (ha n e)
  | _=>simp [hz]
 simp only [Op.eqFields,hn,ne_eq,not_false_eq_true,if_true,Sem.run_bind,hp xs x hx,hp ys y hy,Result.andThen_ok,he];cases b<;>simp
def pR:Value -> Value -> Option Bool
 | .bool a,.bool b=>some (a == b)
 | .int k a,.int k' b=>if k=k' then some (a == b) else none
 | .string a,.string b=>some (a == b)
 | _,_=>none
def sV (P:Program) (t:TypeId):Value -> Bool
 | .bool _=>match P.underlying t with | some .bool=>true | _=>false
 | .int k _=>match P.underlying t with | some (.int _)=>true | _=>false
 | .string _=>match P.underlying t with | some .string=>true | _=>false
 | _=>false
theorem F2 {t:TypeId} {x y:Value} {b:Bool} (h:pR x y=some b) (hx:sV P t x=true):(Op.equalIn (d+1) t x y).run P w=.ok b w /\ ∃ u,P.underlying t=some u /\ (∀ fs,u ≠ .struct fs) /\ ∀ n e,u ≠ .array n e:=by
 cases x<;>cases y<;>simp [pR] at h;all_goals (unfold sV at hx;simp only at hx;split at hx)
 all_goals try cases hx
 .rename_i hu;exact ⟨by simp [Op.equalIn,run_underlying hu,h],_,hu,by simp,by simp⟩
 .rename_i hu;obtain ⟨rfl,rfl⟩:=h;exact ⟨by simp [Op.equalIn,run_underlying hu],_,hu,by simp,by simp⟩
 .rename_i hu;exact ⟨by simp [Op.equalIn,run_underlying hu,h],_,hu,by simp,by simp⟩
def ky:List (Value × Value) -> Option Bool
 | []=>some true
 | (x,y) :: l=>match pR x y,ky l with
  | some b,some c=>some (b && c)
  | _,_=>none
theorem rc : ∀ (fs : List Field) (l : List (Value × Value)) (b : Bool), fs.length = l.length → (∀ (k : Nat) (f : Field) (p : Value × Value), fs[k]? = some f → l[k]? = some p → f.name ≠ "_" ∧ sV P f.type p.1 = true ∧ xs[f.offset]? = some p.1 ∧ ys[f.offset]? = some p.2) → ky l = some b → (Op.eqFields (d + 1) xs ys fs).run P w = .ok b w
 | [],[],b,_,_,h=>by
  cases h;simp [Op.eqFields]
 | f :: fs,(x,y) :: l,b,hl,hf,h=>by
  unfold ky at h;split at h
  .rename_i b1 b2 h1 h2;cases h;obtain ⟨h3,h4,h5,h6⟩:=hf 0 f (x,y) rfl rfl;obtain ⟨h7,u,hu,h8,h9⟩:=F2 (P:=P) (w:=w) (d:=d) h1 h4;rw [Bv h3 hu h8 h9 h5 h6 h7,rc fs l b2 (by simpa using hl) (fun k f p hk hp=>hf (k+1) f p (by simpa using hk) (by simpa using hp)) h2];cases b1<;>simp
  .cases h
theorem qU {t:TypeId} {op:BinOp} (l:List (Value × Value)) {b:Bool} (ht:P.underlying t=some (.struct (P.fieldsOf t))) (hs:P.stoodInHeld t=false) (hg:P.eqGuardType P.depth t=false) (hl:(P.fieldsOf t).toList.length=l.length)
  (hf : ∀ (k : Nat) (f : Field) (p : Value × Value), (P.fieldsOf t).toList[k]? = some f → l[k]? = some p → f.name ≠ "_" ∧ sV P f.type p.1 = true ∧ xs[f.offset]? = some p.1 ∧ ys[f.offset]? = some p.2) (h : ky l = some b) (hop : op = .eql ∨ op = .neq) : pD P op t (.agg xs) (.agg ys) (.bool (if op matches .eql then b else !b)) := fun w x y => by
 have he:∀ w,(Op.equalIn 10000 t (.agg xs) (.agg ys)).run P w=.ok b w:=fun w=>by
  rw [run_equalIn_agg w 9999 t xs ys ht hs];exact rc (P:=P) (d:=9998) _ l b hl hf h
 rcases hop with rfl|rfl
 .simp only [Sem.run_bind,run_eqGuard_agg w _ t x y xs ys hg,Result.andThen_ok,run_eql_struct,he];rfl
 .simp only [Sem.run_bind,run_eqGuard_agg w _ t x y xs ys hg,Result.andThen_ok,run_neq_struct,he];rfl
end
end
section
section
variable {P:Program} {cx:Cx} {a:Act} {w w' w'':World} {st:ak} {tab tab' tab'':aa} {L L' L'':Nat -> Value} {nx nx' nx'':Nat}
theorem bA (st:ak) (d:Option Nat) (av:AV):(st.put d av).tab=st.tab:=by cases d<;>rfl
theorem bp (st:ak) (d:Option Nat) (av:AV):(st.put d av).next=st.next:=by cases d<;>rfl
theorem m9 (h:aI cx a w st L) (hb:Below w.heap.size w w') {v:Value} {ob:ar} (hnew:∀ g,aH v=some g -> w.heap.size<=g):Fr cx w st.tab L st.next w' ((st.next,some ob) :: st.tab) (bb L st.next v) (st.next+1):=
 lV (fun id o hid=>(h.young id o hid).1) hb (fun id hid=>by unfold bb;rw [aa.gc,KY (by omega),KY (by omega)];exact ⟨rfl,rfl⟩)
  (fun id o g h1 h2 h3=>by
   rw [aa.gc] at h2;unfold bb at h3;split at h2
   .rename_i e;rw [K5 e] at h3;exact hnew g h3
   .have:=(h.young id o h2).1;omega) (Lw _)
theorem pA {id:Nat} {o o':ar} (hid:st.tab.get id=some o) (hsz:o'.sz=o.sz) (hs:w'.heap.size=w.heap.size) (hb:∀ k,aH (L id) ≠ some k -> w'.heap[k]? = w.heap[k]?):Fr cx w st.tab L st.next w' ((id,some o') :: st.tab) L st.next:=by
 have hget:∀ k ok,aa.get ((id,some o') :: st.tab) k=some ok -> ∃ ok',st.tab.get k=some ok' /\ ok.sz=ok'.sz:=fun k ok hk=>by
  rw [aa.gc] at hk;split at hk
  .rename_i e;cases hk;exact ⟨o,by rw [e];exact hid,hsz⟩
  .exact ⟨ok,hk,rfl⟩
 refine ⟨⟨fun b hb'=>hb b (hb'.2.2 id o hid),fun b hb'=>⟨by rw [hs];exact hb'.1,hb'.2.1,fun k ok hk=>?_⟩,fun k p _ hk=>?_⟩,by rw [hs];exact KW _,fun k hk hn=>hb k (hn id o hid),fun k ok g h1 h2 _=>?_,KW _⟩
 .obtain ⟨ok',h1,_⟩:=hget k ok hk;exact hb'.2.2 k ok' h1
 .unfold Kx at *
  cases ho:aa.get ((id,some o') :: st.tab) k with
  | none=>simp [ho] at hk
  | some ok=>
   obtain ⟨ok',h1,h2⟩:=hget k ok ho;rw [h1];simpa [ho,h2] using hk
 .obtain ⟨ok',h3,_⟩:=hget k ok h1;exact ⟨k,ok',h3,h2⟩
theorem wL (h:aI cx a w st L) {v v':Value} {oid:Option Nat} {ob:ar} (hg:w.grownBy w' v.ownBlock) (hv:aH v'=v.ownBlock \/ aH v'=some w.heap.size)
  (hown:∀ g,v.ownBlock=some g -> ∃ id,oid=some id /\ aH (L id)=some g) (hoid:∀ id,oid=some id -> ∃ o,st.tab.get id=some o):Fr cx w st.tab L st.next w' (bq st.tab st.next oid ob) (bb L st.next v') (st.next+1):=by
 have hnot:∀ k,(∀ id o,st.tab.get id=some o -> aH (L id) ≠ some k) -> some k ≠ v.ownBlock:=fun k hn e=>by
  obtain ⟨id,h1,h2⟩:=hown k e.symm;obtain ⟨o,h3⟩:=hoid id h1;exact hn id o h3 h2
 have hget:∀ k ok,(bq st.tab st.next oid ob).get k=some ok -> k=st.next \/ (k<st.next /\ st.tab.get k=some ok):=fun k ok hk=>by
  rw [br] at hk;split at hk
  .exact .inl (by assumption)
  .split at hk
   .cases hk
   .exact .inr ⟨(h.young k ok hk).1,hk⟩
 refine ⟨⟨fun b hb=>hg.block b hb.1 (hnot b hb.2.2),fun b hb=>⟨K1 hb.1 hg.size,hb.2.1,fun k ok hk=>?_⟩,fun k p hlt hk=>?_⟩,hg.size,fun k hk hn=>hg.block k hk (hnot k hn),fun k ok g h1 h2 hlt=>?_,Lw _⟩
 .unfold bb;rcases hget k ok hk with rfl|⟨hlt,ho⟩
  .rw [K5 rfl];rcases hv with hv|hv
   .rw [hv];exact fun e=>hnot b hb.2.2 e.symm
   .rw [hv];intro e;cases e;exact absurd hb.1 (by omega)
  .rw [KY (by omega)];exact hb.2.2 k ok ho
 .unfold Kx bb at *;rw [KY (by omega)] at hk
  cases ho:(bq st.tab st.next oid ob).get k with
  | none=>simp [ho] at hk
  | some ok=>
   rcases hget k ok ho with rfl|⟨_,h1⟩
   .omega
   .rw [h1];rw [ho] at hk;exact hk
 .unfold bb at h2;rcases hget k ok h1 with rfl|⟨hlt',ho⟩
  .rw [K5 rfl] at h2;rcases hv with hv|hv
   .rw [hv] at h2;obtain ⟨id,h3,h4⟩:=hown g h2;obtain ⟨o,h5⟩:=hoid id h3;exact ⟨id,o,h5,h4⟩
   .rw [hv] at h2;cases h2;omega
  .rw [KY (by omega)] at h2;exact ⟨k,ok,ho,h2⟩
abbrev xh (cx:Cx) (a:Act) (w:World) (st:ak) (L:Nat -> Value) (K:ak -> Prop):Act -> World -> Prop:=fun a' w'=>∃ st' L',K st' /\ aI cx a' w' st' L' /\ Fr cx w st.tab L st.next w' st'.tab L' st'.next /\ a'.defers=a.defers
theorem aX (a:Act) (d:Option Nat) (v:Value):(a.put d v).defers=a.defers:=by cases d<;>rfl
theorem mo {o:Oper} {K:ak -> Prop} {Q:Exit -> Act -> World -> Prop} (h:aI cx a w st L) (hp:bO P st.tab (a6 st) o.op (aK st o.dst K)):o.wp P a w (xh cx a w st L K) Q:=by
 obtain ⟨v,av,h1,h2,h3,h4,_⟩:=jt h.lay (fun id o hid=>(h.young id o hid).2) (aj h) hp;exact aL (h4 w (Below.refl _ _)) ⟨_,L,h1,a7 h h2 h3 o.dst,(by rw [bA,bp];exact Fr.refl),aX _ _ _⟩
def Kk (o:Oper):Bool:=match o.op with
 | .defer _=>false
 | _=>true
theorem pg {id:Nat} {o ob:ar} {v':Value} (h:aI cx a w st L) (hid:st.tab.get id=some o) (hv:aH v'=aH (L id)):Fr cx w st.tab L st.next w (bq st.tab st.next (some id) ob) (bb L st.next v') (st.next+1):=by
 have hget:∀ k ok,(bq st.tab st.next (some id) ob).get k=some ok -> k=st.next \/ (k<st.next /\ st.tab.get k=some ok):=fun k ok hk=>by
  rw [br] at hk;split at hk
  .exact .inl (by assumption)
  .split at hk
   .cases hk
   .exact .inr ⟨(h.young k ok hk).1,hk⟩
 refine ⟨⟨fun _ _=>rfl,fun b hb=>⟨hb.1,hb.2.1,fun k ok hk=>?_⟩,fun k p hlt hk=>?_⟩,KW _,fun _ _ _=>rfl,fun k ok g h1 h2 _=>?_,Lw _⟩
 .unfold bb;rcases hget k ok hk with rfl|⟨hlt,ho⟩
  .rw [K5 rfl,hv];exact hb.2.2 id o hid
  .rw [KY (by omega)];exact hb.2.2 k ok ho
 .unfold Kx bb at *;rw [KY (by omega)] at hk
  cases ho:(bq st.tab st.next (some id) ob).get k with
  | none=>simp [ho] at hk
  | some ok=>
   rcases hget k ok ho with rfl|⟨_,h1⟩
   .omega
   .rw [h1];rw [ho] at hk;exact hk
 .unfold bb at h2;rcases hget k ok h1 with rfl|⟨hlt',ho⟩
  .rw [K5 rfl,hv] at h2;exact ⟨id,o,hid,h2⟩
  .rw [KY (by omega)] at h2;exact ⟨k,ok,ho,h2⟩
theorem vF {t:TypeId} {x:Operand} {lo hi mx:Option Operand} {K:ak -> Prop} {Q:Exit -> Act -> World -> Prop} {ty:TypeId} {dst:Option Nat} {pos:String} {aft:Array Edge} {gd:Option (Nat × Bool)} (h:aI cx a w st L)
  (hp:jd P t st (a6 st x) (lo.map (a6 st)) (hi.map (a6 st)) (mx.map (a6 st)) dst K):Oper.wp (P:=P) ⟨dst,.slice t x lo hi mx,ty,pos,aft,gd⟩ a w (xh cx a w st L K) Q:=by
 unfold jd at hp;split at hp
 .rename_i id hx;have hv:=(aj h x).1;rw [hx] at hv;split at hp
  .rename_i e sz rows hid;unfold md at hp;split at hp
   .rename_i l h' hl hh;obtain ⟨⟨h1,h2⟩,⟨rfl,h4,h5,h6⟩,h7⟩:=hp;obtain ⟨hu,hsz⟩:=gI (P:=P) (t:=t) (by omega);have hvL:=hv.osl_inv _ _ (bI hid);obtain ⟨hrow,xs,hown,hone,hx'⟩:=h.lay.objs id _ hid;have hs:=cF (P:=P) (t:=(bh P t).1) (by omega) w;rw [hsz,h1] at hs
    have key:∀ A cap,L id=.slice A rows.length cap -> rows.length<=cap -> ∃ m,h'.toNat<=m /\ m<=cap /\ (Instr.sliceBounds true rows.length cap (lo.map a.eval) (hi.map a.eval) (mx.map a.eval)).run P w=.ok (0,h'.toNat,m) w:=by
     intro A cap hL hc;have hlo:=nD (d:=0) (n:=0) (fun x=>(aj h x).1) hl (by omega) rfl;have hhi:=nD (d:=rows.length) (n:=h'.toNat) (fun x=>(aj h x).1) hh (by omega) rfl
     cases mx with
     | none=>exact ⟨cap,by omega,KW _,fK hlo hhi (.inl ⟨rfl,rfl⟩) (by omega) (by omega)⟩
     | some q=>
      have hq:=(aj h q).1;simp only [LE] at h6 ⊢;unfold yL at h6;split at h6
      .rename_i hq';cases hq'
      .rename_i k m hq'
       injection hq' with hq'
       rw [hq'] at hq;obtain ⟨rfl,hb⟩:=h6;refine ⟨m.toNat,KW _,by omega,fK hlo hhi (.inr ⟨rfl,⟨k,by rw [hq.c_inv,Int.toNat_of_nonneg h4]⟩,fun hn=>?_⟩) (by omega) (by omega)⟩
       cases hi with
       | none=>simp at hb
       | some _=>cases hn
      .exact h6.elim
    rcases hown.2 with ⟨hL,h0⟩|⟨g,cap,cur,hL,hb,hh',hc,hm,hcs,htake⟩
    .obtain ⟨m,hm1,hm2,hr⟩:=key none 0 (by rw [hL,h0]) (by omega);have hm0:m=0:=(by omega);have hn0:h'.toNat=0:=(by omega);refine aL (v:=.slice none 0 0) ?_ ⟨_,_,h7,jA (n:=h'.toNat) h hid (by omega) (.inl ⟨hL,rfl⟩) dst,(by rw [bA,bp];exact pg h hid (by rw [hL])),aX _ _ _⟩;rw [h0] at hr;simp [execOp,Sem.run_bind,hvL,hL,Instr.sliceAt,Instr.slice,run_underlying hu,hr,hs,hm0,hn0]
    .obtain ⟨m,hm1,hm2,hr⟩:=key _ cap hL hc;refine aL (v:=.slice (some ⟨g,0,none⟩) h'.toNat m) ?_ ⟨_,_,h7,jA (n:=h'.toNat) h hid (by omega) (.inr ⟨g,cap,m,hL,rfl,hm1,hm2⟩) dst,(by rw [bA,bp];exact pg h hid (by rw [hL];rfl)),aX _ _ _⟩;simp [execOp,Sem.run_bind,hvL,hL,Instr.sliceAt,Instr.slice,run_underlying hu,hr,hs,Addr.add_lit]
   .exact hp.elim
  .exact hp.elim
 .exact mo (o:=⟨dst,.slice t x lo hi mx,ty,pos,aft,gd⟩) h (by exact hp)
theorem GP {o:Oper} {K:ak -> Prop} {Q:Exit -> Act -> World -> Prop} (h:aI cx a w st L) (hp:lG P o K st) (hf:Kk o=true):o.wp P a w (xh cx a w st L K) Q:=by
 obtain ⟨dst,op,ty,pos,aft,gd⟩:=o;unfold lG at hp;simp only at hp;split at hp
 .rename_i t x;obtain ⟨h1,h2⟩:=hp;have he:=aj h x;obtain ⟨h3,h4⟩:=nr (P:=P) (t:=t) h he.1 he.2 h1 dst;exact aL (by simp [execOp,Sem.run_bind,h3]) ⟨_,_,h2,h4,(by rw [bA,bp];exact m9 h ((Below.refl _ _).alloc (KW _) _) (fun g hg=>by simp [aH] at hg;omega)),aX _ _ _⟩
 .rename_i t;split at hp
  .rename_i z hz;obtain ⟨h1,h2⟩:=hp;obtain ⟨h3,h4⟩:=nr (P:=P) (t:=t) (av:=.c z) h (.tree (.c z)) trivial h1 dst;exact aL (by simp [execOp,Sem.run_bind,nc hz,h3]) ⟨_,_,h2,h4,(by rw [bA,bp];exact m9 h ((Below.refl _ _).alloc (KW _) _) (fun g hg=>by simp [aH] at hg;omega)),aX _ _ _⟩
  .exact hp.elim
 .rename_i t p x;unfold mL at hp;split at hp
  .rename_i id i j hpe;split at hp
   .rename_i ty cells hid;obtain ⟨rfl,h0,h1,h2,h3,h4⟩:=hp;have hpv:=(aj h p).1;rw [hpe] at hpv;have hx:=aj h x;obtain ⟨w',h5,h6,h7,h8⟩:=jg h hpv hid hx.1 hx.2 h0 h1 h2 h3 dst;exact dt (by simp [execOp,Sem.run_bind,h5]) ⟨_,_,h4,h6,(by rw [bA,bp];exact pA hid (by simp only [ar.sz,f4,K6,LG];omega) h7 h8),aX _ _ _⟩
   .rename_i e sz rows hid;obtain ⟨hi,h0,h1,h2,h3,h3',h4⟩:=hp;have hpv:=(aj h p).1;rw [hpe] at hpv;have hx:=aj h x;obtain ⟨w',h5,h6,h7,h8⟩:=je h hpv hid hx.1 hx.2 hi h0 h1 h2 h3 h3' dst;exact dt (by simp [execOp,Sem.run_bind,h5]) ⟨_,_,h4,h6,(by rw [bA,bp];exact pA hid rfl h7 h8),aX _ _ _⟩
   .rename_i e sz rows hid;obtain ⟨hi,h0,h1,h2,h3,h4⟩:=hp;have hpv:=(aj h p).1;rw [hpe] at hpv;have hx:=aj h x;obtain ⟨w',h5,h6,h7,h8⟩:=iq h hpv hid hx.1 hx.2 hi h0 h1 h2 h3 dst;exact dt (by simp [execOp,Sem.run_bind,h5]) ⟨_,_,h4,h6,(by rw [bA,bp];exact pA hid rfl h7 h8),aX _ _ _⟩
   .exact hp.elim
  .exact hp.elim
 .rename_i t n parts;unfold db at hp;have hfr:=ow (cx:=cx) (w:=w) (L:=L) (st:=st) (fM (parts.toList.flatMap fun (p:Nat × Operand)=>al (a6 st p.2)))
  replace h:=eW (fM (parts.toList.flatMap fun (p:Nat × Operand)=>al (a6 st p.2))) h
  unfold fr at hp;split at hp
  .rename_i e sz by_ ht;split at hp
   .obtain ⟨⟨h1,rfl,h3,h5⟩,h6⟩:=hp;obtain ⟨v',w',L',h7,h8,hb,rfl,hv⟩:=io h ht h1 h3 h5 dst;refine aL ?_ ⟨_,_,h6,h8,(by rw [bA,bp];exact hfr.trans (m9 h hb fun g hg=>by rw [hv] at hg;cases hg;exact KW _)),aX _ _ _⟩;simp only [Mx] at h7;simp [execOp,Sem.run_bind];simp at h7;simp [h7]
   .obtain ⟨⟨h1,rfl,h3,h5⟩,h6⟩:=hp;obtain ⟨v',w',L',h7,h8,hb,rfl,hv⟩:=mO h ht h1 h3 h5 dst;refine aL ?_ ⟨_,_,h6,h8,(by rw [bA,bp];exact hfr.trans (m9 h hb fun g hg=>by rw [hv] at hg;cases hg;exact KW _)),aX _ _ _⟩;simp only [Mx] at h7;simp [execOp,Sem.run_bind];simp at h7;simp [h7]
  .exact hp.elim
 .rename_i t l c;unfold nQ at hp;split at hp
  .rename_i e sz by_ k1 n k2 m ht hl hc;split at hp
   .rename_i z hz;obtain ⟨⟨rfl,h1,h2,h3,h4⟩,h5⟩:=hp;have hl':=(aj h l).1;have hc':=(aj h c).1;rw [hl] at hl';rw [hc] at hc';obtain ⟨v',w',L',h6,h7,hb,rfl,hv⟩:=sm (k1:=k1) (k2:=k2) h ht hz h1 h2 h3 h4 dst;exact aL (by simp [execOp,Sem.run_bind,hl'.c_inv,hc'.c_inv,h6]) ⟨_,_,h5,h7,(by rw [bA,bp];exact m9 h hb fun g hg=>by rw [hv] at hg;cases hg;exact KW _),aX _ _ _⟩
   .exact hp.elim
  .exact hp.elim
 .rename_i t parts;obtain ⟨v,cs,h1,h2,h3,h4⟩:=ka h hp;refine aL ?_ ⟨_,_,h4,a7 h h1 h2 dst,(by rw [bA,bp];exact Fr.refl),aX _ _ _⟩;simp [execOp,Sem.run_bind,h3 w]
 .rename_i t x lo hi mx;exact vF h hp
 .rename_i t r;obtain ⟨hr,hp⟩:=hp
  cases r with
  | some r=>cases hr
  | none=>
   obtain ⟨h1,h2⟩:=pS (P:=P) (t:=t) h dst;exact aL (by simp [execOp,Sem.run_bind,h1]) ⟨_,_,hp,h2,(by rw [bA,bp];exact m9 h ((Below.refl _ _).alloc (KW _) _) (fun g hg=>by simp [aH] at hg;omega)),aX _ _ _⟩
 .rename_i t m k ok;obtain ⟨r,av,h1,h2,h3,h4⟩:=nk (nx:=st.next) h.lay (aj h m).1 (aj h k).1 hp;exact aL (by simp [execOp,Sem.run_bind,h4]) ⟨_,_,h1,a7 h h2 h3 dst,(by rw [bA,bp];exact Fr.refl),aX _ _ _⟩
 .rename_i t m k v;obtain ⟨w',st',h1,h2,h3,h4,id,ents,ents',_,h5,rfl,h6⟩:=m6 h (aj h m).1 (aj h k).1 (aj h v).1 dst hp;exact dt (by simp [execOp,Sem.run_bind,h1]) ⟨_,_,h2,h3,(by rw [bA,bp];exact pA h5 rfl h4 h6),aX _ _ _⟩
 .rename_i c;obtain ⟨callee,args,argTypes⟩:=c;simp only at hp;split at hp
  .split at hp
   .rename_i x y t t' h1 h2;obtain rfl:args = #[x,y]:=by cases args;simp_all
    obtain rfl:argTypes = #[t,t']:=by cases argTypes;simp_all
    unfold jn at hp;split at hp
    rotate_left
    .obtain ⟨v',w',st',L',h6,h5,h7,e,rows,rows2,oid,hx,rfl,hg,rfl,hv,hown⟩:=qz (ty:=ty) h (aj h x).1 (aj h y).1 dst hp
     have hoid:∀ id,oid=some id -> ∃ o,st.tab.get id=some o:=fun id hid=>by
      subst hid;unfold mE at hx;split at hx
      .rename_i id' hid';split at hx
       .rename_i e' sz' rows' hget;split at hx
        .cases hx;exact ⟨_,hget⟩
        .cases hx
       .cases hx
      .cases hx
      .cases hx
     exact aL (by simp [execOp,Sem.run_bind,resolve,invoke,builtin,h6]) ⟨_,_,h5,h7,(by rw [bA,bp];exact wL h hg hv hown hoid),aX _ _ _⟩
    rename_i htt;obtain rfl:t=t':=of_decide_eq_true htt;unfold gX at hp;split at hp
    .rename_i hnn;obtain ⟨e1,e2⟩:=k9 hnn;have hx1:=(aj h x).1;have hy1:=(aj h y).1;rw [e1] at hx1;rw [e2] at hy1;have hx2:=hx1.c_inv;have hy2:=hy1.c_inv;have hr:=gR (ty:=ty) (w:=w) hp.1;exact aL (by simp [execOp,Sem.run_bind,resolve,invoke,builtin,hx2,hy2,hr]) ⟨_,_,hp.2,a7 h (.tree (.c _)) trivial dst,(by rw [bA,bp];exact Fr.refl),aX _ _ _⟩
    unfold iB at hp;split at hp
    .rename_i e sz by_ ht;split at hp
     .rename_i oid rows rows2 hx hy;obtain ⟨⟨h3,h4⟩,h5⟩:=hp;obtain ⟨v',w',L',h6,h7,hg,rfl,hv,hown⟩:=mM (ty:=ty) h (aj h x).1 (aj h y).1 ht hx hy (by simpa [maxLen] using h3) h4 dst
      have hoid:∀ id,oid=some id -> ∃ o,st.tab.get id=some o:=fun id hid=>by
       subst hid;unfold mE at hx;split at hx
       .rename_i id' hid';split at hx
        .rename_i e' sz' rows' hget;split at hx
         .cases hx;exact ⟨_,hget⟩
         .cases hx
        .cases hx
       .cases hx
       .cases hx
      exact aL (by simp [execOp,Sem.run_bind,resolve,invoke,builtin,h6]) ⟨_,_,h5,h7,(by rw [bA,bp];exact wL h hg hv hown hoid),aX _ _ _⟩
     .split at hp
      .rename_i oid rows rows2 hx hy;obtain ⟨⟨h3,h4⟩,h5⟩:=hp;obtain ⟨v',w',L',h6,h7,hg,rfl,hv,hown⟩:=ly (ty:=ty) h (aj h x).1 (aj h y).1 ht hx hy (by simpa [maxLen] using h3) h4 dst
       have hoid:∀ id,oid=some id -> ∃ o,st.tab.get id=some o:=fun id hid=>by
        subst hid;unfold kh at hx;split at hx
        .rename_i id' hid';split at hx
         .rename_i e' sz' rows' hget;split at hx
          .cases hx;exact ⟨_,hget⟩
          .cases hx
         .cases hx
        .cases hx
        .cases hx
       exact aL (by simp [execOp,Sem.run_bind,resolve,invoke,builtin,h6]) ⟨_,_,h5,h7,(by rw [bA,bp];exact wL h hg hv hown hoid),aX _ _ _⟩
      .exact hp.elim
    .exact hp.elim
   .exact hp.elim
  .unfold sM at hp;split at hp
   .rename_i x t h1 h2;obtain rfl:args = #[x]:=by cases args;simp_all
    obtain rfl:argTypes = #[t]:=by cases argTypes;simp_all
    obtain ⟨w',st',h3,h4,h5,h6,id,ents,h7,rfl,h8⟩:=tL (ty:=ty) h (aj h x).1 dst hp;exact aL (by simp [execOp,Sem.run_bind,resolve,invoke,builtin,h3]) ⟨_,_,h4,h5,(by rw [bA,bp];exact pA h7 rfl h6 h8),aX _ _ _⟩
   .exact hp.elim
  .rcases hp with hp | hp
   .unfold w7 at hp;split at hp
    .rename_i x t h1 h2;obtain rfl:args = #[x]:=by cases args;simp_all
     obtain rfl:argTypes = #[t]:=by cases argTypes;simp_all
     obtain ⟨r,av,h3,h4,h5,h6⟩:=xM (ty:=ty) (nx:=st.next) h.lay (aj h x).1 hp;exact aL (by simp [execOp,Sem.run_bind,resolve,invoke,builtin,h6]) ⟨_,_,h3,a7 h h4 h5 dst,(by rw [bA,bp];exact Fr.refl),aX _ _ _⟩
    .exact hp.elim
   .exact mo h hp
  .rename_i f;obtain ⟨g,zs,avs,hrun0,hsz,hlt,hp⟩:=uy h hp;by_cases hmeth:vn none P st g avs (rQ dst K)
   .obtain ⟨hent,ids0,_,hc⟩:=sF h hsz (fun j v av h1 h2=>(hlt j v av h1 h2).1) hmeth dst;unfold Oper.wp;rw [hrun0 hent _ argTypes rfl];show Calls P g zs w _;refine hc.mono ?_;rintro e w' ⟨v,av,st',L',rfl,h1,h2,h3,_⟩;exact ⟨_,_,h1,h2,(by rw [bA,bp];exact h3),aX _ _ _⟩
   replace hp:na P st g avs (rQ dst K) \/ (none=(none:Option (Nat × List Nat)) /\ (xG P st g avs (rQ dst K) \/ vX P st g avs (rQ dst K))):=by
    rcases hp with hp|hp|hp
    .exact .inl hp
    .exact .inr hp
    .exact absurd hp hmeth
   have hent:eL P g:=by
    rcases hp with (⟨R,hd,_⟩|⟨hd,_⟩)|⟨_,(⟨_,_,_,_,_,_,_,_,hd,_⟩|⟨_,_,_,_,_,_,_,_,_,hd,_⟩|⟨hd,_⟩)|⟨_,(⟨R,hd,_⟩|⟨hd,_⟩)⟩⟩
    .exact hd.1
    .exact hd
    .exact hd.1
    .exact hd.1
    .exact hd
    .exact hd.1
    .exact hd
   unfold Oper.wp;rw [hrun0 hent _ argTypes rfl];show Calls P g zs w _;have hargs:zs.size=avs.length /\ ∀ (j:Nat) (v:Value) (av:AV),zs[j]? = some v -> avs[j]? = some av -> bx cx w st.tab L v av:=⟨hsz,fun j v av h1 h2=>(hlt j v av h1 h2).1⟩;rcases hp with hp|⟨_,hp|⟨ids,hp⟩⟩
   .refine (mu h hargs.1 hargs.2 hp dst).mono ?_;rintro e w' ⟨v,av,st',L',rfl,h1,h2,hb,hold,hnew,hnx⟩;exact ⟨_,_,h1,h2,(by rw [bA,bp];exact lV (fun id o hid=>(h.young id o hid).1) hb hold hnew hnx),aX _ _ _⟩
   rotate_left
   .obtain ⟨h3,h4⟩:=ks ids h hlt;have hz:=eW ids h;refine (mu hz (by rw [h3];exact hargs.1) (fun j v av h5 h6=>(h4 j v av h5 h6).1) hp dst).mono ?_;rintro e w' ⟨v,av,st',L',rfl,h1,h2,hb,hold,hnew,hnx⟩;exact ⟨_,_,h1,h2,(by rw [bA,bp];exact (ow ids).trans (lV (fun id o hid=>(hz.young id o hid).1) hb hold hnew hnx)),aX _ _ _⟩
   .refine (xF h hargs.1 hlt hp dst).mono ?_;rintro e w' ⟨v,av,st',L',rfl,h1,h2,h3⟩;exact ⟨_,_,h1,h2,(by rw [bA,bp];exact h3),aX _ _ _⟩
  .exact mo h hp
 .exact mo h hp
end
end
section
section
variable {P:Program} {cx:Cx} {a:Act} {w w':World} {st:ak} {L L':Nat -> Value} {l0 n:Nat}
end
end
section
abbrev IG:=List (List AV) × Bool
section
variable {P:Program} {l:Nat} {xs:List (List AV)} {Q:Exit -> IG -> ak -> Prop} {g:IG} {st:ak} {K:IG -> ak -> Prop} {ops:Array Oper} {dst:Option Tmp} {op:Op} {ty:TypeId} {pos:String} {aft:Array Edge} {gd:Option (Nat × Bool)} {rest:List Oper}
end
section
variable {P:Program} {l:Nat} {xs:List (List AV)} {T0:Nat -> Prop} {W0:World} {J Jx:List (List AV) -> (Nat -> Prop) -> (Nat -> Prop) -> World -> Prop} {g:IG} {st st':ak} {a a':Act} {W W':World} {L L':Nat -> Value} {T M M':Nat -> Prop}
end
end
section
theorem cH {st:ak} (id j e sz:Nat) {t:TypeId} {cells:List AV} (hid:st.tab.get id=some (.box t cells)) (hj:cells[j]? = some (.c (.slice none 0 0))) :
  dq st ⟨st.n,st.env,(id,some (.box t (cells.set j (.osl st.next)))) :: (st.next,some (.row e sz [])) :: st.tab,st.next+1⟩:=by
 intro cx a w L h;have hc1:=iw (ob:=.row e sz []) (v:=.slice none 0 0) (x:=.slice none 0 0) (av:=.any) h (Below.refl _ _) (fun g hg=>by simp [aH] at hg) (fun hext=>⟨by simp,[],gC ..,by simp,by simp⟩) trivial (fun hext=>.tree (.any _)) trivial none;have hlt:=(h.young id _ hid).1;have hget1:aa.get ((st.next,some (.row e sz [])) :: st.tab) id=some (.box t cells):=by rw [aa.gc,KY (by omega)];exact hid
 generalize hL1:bb L st.next (.slice none 0 0)=L1 at hc1;generalize ht1:(st.next,some (ar.row e sz [])) :: st.tab=tab1 at hc1 hget1 ⊢;have hc1:aI cx a w ⟨st.n,st.env,tab1,st.next+1⟩ L1:=hc1;have hnew:aa.get tab1 st.next=some (.row e sz []):=by rw [<- ht1,aa.gc,K5 rfl]
 have hLn:L1 st.next=.slice none 0 0:=by rw [<- hL1];simp [bb]
 have hget:∀ k o,aa.get ((id,some (.box t (cells.set j (.osl st.next)))) :: tab1) k=some o -> ∃ o',aa.get tab1 k=some o' /\ o.sz=o'.sz:=fun k o hk=>by
  rw [aa.gc] at hk;split at hk
  .rename_i e1;cases hk;exact ⟨_,by rw [e1];exact hget1,by simp [ar.sz]⟩
  .exact ⟨o,hk,rfl⟩
 have hS1:∀ b,Sx cx w tab1 L1 b -> Sx cx w ((id,some (.box t (cells.set j (.osl st.next)))) :: tab1) L1 b:=fun b hb=>⟨hb.1,hb.2.1,fun k o hk=>by
  obtain ⟨o',h1,_⟩:=hget k o hk;exact hb.2.2 k o' h1⟩
 have hK:∀ k p,Kx ((id,some (.box t (cells.set j (.osl st.next)))) :: tab1) L1 k=some p -> Kx tab1 L1 k=some p:=fun k p hk=>by
  unfold Kx at *
  cases ho:aa.get ((id,some (.box t (cells.set j (.osl st.next)))) :: tab1) k with
  | none=>simp [ho] at hk
  | some o=>
   obtain ⟨o',h1,h2⟩:=hget k o ho;rw [h1];simpa [ho,h2] using hk
 have hrv:∀ {x av},bx cx w tab1 L1 x av -> av.lt (st.next+1) -> bx cx w ((id,some (.box t (cells.set j (.osl st.next)))) :: tab1) L1 x av:=fun hr hl=>hr.mono hl (fun _ _=>rfl) hS1 fun k p _ hk=>hK k p hk
 refine ⟨L1,⟨⟨hc1.lay.below,fun k o hk=>?_,fun k k' o o' g h1 h2=>?_,fun b hb=>⟨(hc1.lay.ex b hb).1,fun k o hk=>by
  obtain ⟨o',h1,_⟩:=hget k o hk;exact (hc1.lay.ex b hb).2 k o' h1⟩⟩,hc1.size,hc1.defers.mono (fun _ _=>rfl) hS1,fun k o hk=>?_,fun t=>⟨hrv (hc1.env t).1 (hc1.env t).2,(hc1.env t).2⟩⟩,fun b hb=>hS1 b ?_⟩
 .rw [aa.gc] at hk;split at hk
  .rename_i e1;cases hk;subst e1;obtain ⟨g,cs,h1,h2,h3,h4,h5⟩:=hc1.lay.objs _ _ hget1;refine ⟨g,cs,h1,h2,h3,by simpa using h4,fun i x av h6 h7=>?_⟩;rw [MK] at h7;split at h7
   .rename_i e2;subst e2;split at h7
    .cases h7;have h8:=h5 j x _ h6 hj;refine ⟨.osl x _ fun sz' v hk=>?_,h8.2⟩;have hk:=hK _ _ hk;unfold Kx at hk;rw [hnew] at hk;simp at hk;rw [h8.1.c_inv,<- hk.2,hLn]
    .cases h7
   .have h8:=h5 i x av h6 h7;exact ⟨hrv h8.1 (ag.1 (hc1.young _ _ hget1).2 _ (KO h7)),h8.2⟩
  .have ho:=hc1.lay.objs k o hk;have hy:=(hc1.young k o hk).2
   cases o with
   | box t' cells'=>
    obtain ⟨g,cs,h1,h2,h3,h4,h5⟩:=ho;exact ⟨g,cs,h1,h2,h3,h4,fun i x av h6 h7=>⟨hrv (h5 i x av h6 h7).1 (ag.1 hy _ (KO h7)),(h5 i x av h6 h7).2⟩⟩
   | row e' sz' rows'=>
    obtain ⟨h1,xs,h2,h3,h4⟩:=ho;refine ⟨h1,xs,h2,h3,fun i j row av h5 h6=>?_⟩;obtain ⟨x,hx,hr⟩:=h4 i j row av h5 h6;exact ⟨x,hx,hr.mono (fun _ _=>rfl) hS1⟩
   | map ents=>exact ho
   | nest e' sz' rows'=>
    obtain ⟨h1,xs,h2,h3,h4⟩:=ho;refine ⟨h1,xs,h2,h3,fun i j row av h5 h6=>?_⟩;obtain ⟨x,hx,hr⟩:=h4 i j row av h5 h6;exact ⟨x,hx,hrv hr (ag.1 (hy row (KO h5)) _ (KO h6))⟩
   | ghost vs env=>exact ⟨ho.1,fun t ht=>hrv (ho.2 t ht) (gS hy t)⟩
 .obtain ⟨o1,h3,_⟩:=hget k o h1;obtain ⟨o2,h4,_⟩:=hget k' o' h2;exact hc1.lay.sep k k' o1 o2 g h3 h4
 .rw [aa.gc] at hk;split at hk
  .rename_i e1;cases hk;have hy:=hc1.young id _ hget1;refine ⟨by rw [e1];exact hy.1,ag.2 fun x hx=>?_⟩;rcases LS hx with hx|rfl
   .exact ag.1 hy.2 x hx
   .exact LK _
  .exact hc1.young k o hk
 .refine ⟨hb.1,hb.2.1,fun k o hk hg=>?_⟩;rw [<- ht1,aa.gc] at hk;rw [<- hL1] at hg;unfold bb at hg;split at hk
  .rename_i e1;rw [K5 e1] at hg;simp [aH] at hg
  .rename_i e1;rw [KY e1] at hg;exact hb.2.2 k o hk hg
end
section
theorem uF (st:ak) (id:Nat):dq st (gx st id):=fun cx a w L h=>⟨L,(mP h id).1,fun b hb=>⟨hb.1,hb.2.1,fun k o hk=>by
 unfold gx at hk;split at hk
 .simp only [aa.gc,ct] at hk;split at hk
  .cases hk
  .cases hg:st.tab.get k with
   | none=>simp [hg] at hk
   | some o'=>exact hb.2.2 k o' hg
 .exact hb.2.2 k o hk⟩⟩
end
end
section
section
section
variable {P:Program} {cx:Cx} {a:Act} {w w' w'':World} {st st':ak} {tab tab' tab'':aa} {L L' L'':Nat -> Value} {nx nx':Nat}
theorem Fz.refl:Fz w tab L w tab L:=⟨KW _,fun _ _ _=>rfl,fun id o g h1 h2 _=>⟨id,o,h1,h2⟩⟩
theorem Fz.trans (h:Fz w tab L w' tab' L') (k:Fz w' tab' L' w'' tab'' L''):Fz w tab L w'' tab'' L'':=
  ⟨Lf h.size k.size,
   fun j hj hn=>(k.keep j (K1 hj h.size) fun id o h1 h2=>(h.young id o j h1 h2 hj).elim fun id2 ⟨o2,h3,h4⟩=>hn id2 o2 h3 h4).trans (h.keep j hj hn),
   fun id o g h1 h2 hg=>(k.young id o g h1 h2 (K1 hg h.size)).elim fun id2 ⟨o2,h3,h4⟩=>h.young id2 o2 g h3 h4 hg⟩
theorem Fr.fz (h:Fr cx w tab L nx w' tab' L' nx'):Fz w tab L w' tab' L':=⟨h.size,h.keep,h.young⟩
theorem rG (hw:dq st st') (h:aI cx a w st L):∃ L',aI cx a w st' L' /\ Fz w st.tab L w st'.tab L':=by
 obtain ⟨L',h1,h2⟩:=hw _ _ _ _ h;refine ⟨L',h1,KW _,fun _ _ _=>rfl,fun id o g h3 h4 h5=>?_⟩;refine Classical.byContradiction fun hno=>?_;have hS:Sx cx w st.tab L g:=⟨h5,⟨.inr ((h1.lay.objs id o h3).ge h4).1,fun hX=>(h1.lay.ex g hX).2 id o h3 h4⟩,fun id2 o2 h6 h7=>hno ⟨id2,o2,h6,h7⟩⟩;exact (h2 g hS).2.2 id o h3 h4
theorem og {ops:Array Oper} {K:ak -> Prop} {Q:Exit -> Act -> World -> Prop} {T:Nat -> Prop}:∀ (l:List Oper) (a:Act) (w:World) (st:ak) (L:Nat -> Value),(∀ o ∈ l,Kk o=true /\ ∀ t,T t -> o.dst ≠ some t) ->
  (∀ a' w' st' L',K st' -> aI cx a' w' st' L' -> Fz w st.tab L w' st'.tab L' -> bU T a a' -> Q .normal a' w') -> aI cx a w st L -> kO P ops K l st -> wpList P ops Q l a w
 | [],a,w,st,L,_,hQ,h,hp=>hQ a w st L hp h Fz.refl (.refl a)
 | o :: rest,a,w,st,L,hf,hQ,h,hp=>by
  unfold kO at hp;obtain ⟨hfo,hdo⟩:=hf o (LD ..);have hrest:=fun o' (ho':o' ∈ rest)=>hf o' (Lz _ ho');refine wpList_step fun K' hK'=>?_;rcases ch h hp o rfl with ⟨hw,st1,h1,h2,e1,e2⟩|⟨hw,st1,h1,h2,e1,e2⟩
  .rw [K5 hw];refine Oper.wp_mono (fun a' w' ⟨⟨st2,L2,h3,h4,h5,h6⟩,h7⟩=>hK' a' w' (og rest a' w' st2 L2 hrest (fun a3 w3 st3 L3 h8 h9 h10 h11=>hQ a3 w3 st3 L3 h8 h9 ?_ (bU.trans ⟨h6,h7⟩ h11)) h4 h3)) (dK hdo (GP h2 h1 hfo));have h5:=h5.fz;rw [e1] at h5;exact h5.trans h10
  .rw [KY (by simp [hw])];refine hK' _ _ (og rest _ w _ L hrest (fun a3 w3 st3 L3 h8 h9 h10 h11=>hQ a3 w3 st3 L3 h8 h9 ?_ (((bU.refl a).put hdo).trans h11)) (bQ h2 o.dst) h1);rw [bA,e1] at h10;exact h10
theorem Fz.below (hy:∀ id o g,tab.get id=some o -> aH (L id)=some g -> g<w.heap.size) (hb:Below w.heap.size w w'):Fz w tab L w' tab L:=⟨hb.size,fun k hk _=>hb.block k hk,fun id o g h1 h2 _=>⟨id,o,h1,h2⟩⟩
def gh (t:Nat):Code -> Bool
 | .skip=>true
 | .region _ ops _=>ops.toList.all fun o=>Kk o && !(o.dst == some t)
 | .seq x y=>gh t x && gh t y
 | .cond _ x y=>gh t x && gh t y
 | .block _ x=>gh t x
 | .loop x=>gh t x
 | .exit _=>true
 | .ret=>true
 | .label _=>true
 | .scope x=>gh t x
 | _=>false
abbrev wB (cx:Cx) (a:Act) (w:World) (tab:aa) (L:Nat -> Value) (t:Nat) (Q:Exit -> ak -> Prop):Exit -> Act -> World -> Prop:=fun e a' w'=>∃ st' L',Q e st' /\ aI cx a' w' st' L' /\ Fz w tab L w' st'.tab L' /\ bU (fun k=>k=t) a a'
theorem uw (hm:P.follows .mixedOrders=true) (t:Nat):∀ (c:Code),gh t c=true -> ∀ (Q:Exit -> ak -> Prop) (a:Act) (w:World) (st:ak) (L:Nat -> Value),aI cx a w st L -> bC P c Q st -> c.wp P (wB cx a w st.tab L t Q) a w:=by
 intro c
 induction c with
 | skip=>exact fun _ Q a w st L h hp=>wp_skip ⟨st,L,hp,h,Fz.refl,.refl a⟩
 | region id ops draw=>
  intro hf Q a w st L h hp;unfold bC DN at hp;simp only [gh,List.all_eq_true,Li] at hf;have hf:∀ o ∈ ops.toList,Kk o=true /\ ∀ k,k=t -> o.dst ≠ some k:=fun o ho=>⟨(hf o ho).1,fun k hk=>by subst hk;simpa using (hf o ho).2⟩;have hT:∀ (i:Nat) (o:Oper),ops[i]? = some o -> ∀ k,k=t -> o.dst ≠ some k:=fun i o ho=>(hf o (Array.mem_toList_iff.2 (Array.mem_of_getElem? ho))).2;have hyg:∀ id o g,st.tab.get id=some o -> aH (L id)=some g -> g<w.heap.size:=fun id o g h1 h2=>((h.lay.objs id o h1).ge h2).2
  cases draw with
  | false=>exact wp_region_list (og (T:=fun k=>k=t) _ a w st L hf (fun a' w' st' L' h1 h2 h3 h4=>⟨st',L',h1,h2,h3,h4⟩) h (by simpa using hp))
  | true=>
   simp only [if_true] at hp;obtain ⟨l⟩:=ops;rcases hp with ⟨hB,hp⟩|⟨n,hB,hp⟩|⟨ids,hd,s,hB,K',hK',hids,hp⟩
   .exact wp_region_quiet (C:=fun w'=>Below w.heap.size w w') hm hB ((Below.refl _ _).drew) (kE (L:=L) (T:=fun k=>k=t) (a0:=a) (tab0:=st.tab) (fun a' st' h1 h2 h3 h4 w' hw'=>⟨st',L,h1,fG h2 hw',by rw [h3];exact Fz.below hyg hw',h4⟩) _ _ _ (fun o ho=>(hf o ho).2) rfl (.refl a) h hp)
   .have h':aI cx a w.drew st L:=fG h ((Below.refl _ _).drew);have hz:Fz w st.tab L w.drew st.tab L:=Fz.below hyg ((Below.refl _ _).drew);exact wp_region_still_tail n hm hB (oj (T:=fun k=>k=t) (a0:=a) (tab0:=st.tab) (fun a' st' h1 h2 h3 h4=>og (T:=fun k=>k=t) _ a' w.drew st' L (fun o ho=>hf o (LP ho)) (fun a2 w2 st2 L2 h5 h6 h7 h8=>⟨st2,L2,h5,h6,hz.trans (by rw [<- h3];exact h7),h4.trans h8⟩) h2 h1) _ _ _ (fun o ho=>(hf o (Lk ho)).2) rfl (.refl a) h' hp)
   .simp only [Li] at hB;have hB:=And.intro hB.1 (MI hB.2);have h':aI cx a w.drew st L:=fG h ((Below.refl _ _).drew)
    let G:Nat -> Prop:=fun k=>∃ id ∈ ids,aH (L id)=some k
    refine Code.wp_mono (Q:=kq (wB cx a w st.tab L t Q)) (fun e a w hq=>?_) (wp_region_held (S:=fun w'=>jV w.drew.heap.size G w.drew w') hm ?_)
    .cases e<;>first|exact hq|exact hq.elim
    .refine j4 (T:=st.tab) (Tz:=fun k=>k=t) (a0:=a) (nx:=st.next) (ids:=ids) hB.1.1 hT s ⟨KW _,fun _ _ _=>rfl⟩ (fun w' b hw' hb o u hu=>?_) (fun listed a' st' hA hT' hN hB' hK h2 fuel hf'=>?_) hd _ _ _ (.refl a) h' rfl rfl hB.1.2 hp _ hB.2
     .have hlt:=World.block_lt_of_cell? w.drew _ hu;refine (World.cell?_of_block (hw'.block b hlt fun ⟨id,hid,hbl⟩=>?_)).trans hu;obtain ⟨ob,hob⟩:=LB.1 (hids id hid);rcases hb with hb|⟨id',o',hni,hget,hbl'⟩
      .exact hb.2.2 id ob hob hbl
      .exact hni (h.lay.sep id' id o' ob b hget hob hbl' hbl ▸ hid)
     .refine bE (Q:=wB cx a w st.tab L t Q) (T0:=st.tab) (T:=fun k=>k=t) (a0:=a) (L0:=L) hB.1.1 hT (fun a2 w2 st2 L2 h3 h4 h5 h6 h7 h8=>?_) s listed a' w.drew st' L h2 ⟨KW _,fun _ _ _=>rfl⟩ (fun id o g h3 h4 _=>by
       rw [hT'] at h4;have:=(h.young id o h4).1;omega) (fun id hid g hg=>⟨id,hid,hg⟩) (fun id hid=>by
       obtain ⟨ob,hob⟩:=LB.1 (hids id hid);rw [hN];exact (h.young id ob hob).1) ⟨fun _ _=>rfl,by rw [hN];exact KW _,fun id o _ hg=>⟨o,by rw [<- hT'];exact hg⟩,fun id o g _ hni hg hbl=>?_⟩ hA hB' hK fuel hf'
      .obtain ⟨st3,hw3,h9⟩:=hK' st2 h3;obtain ⟨L3,h10,h11⟩:=rG hw3 h4;have hG:∀ k,G k -> ∃ id o,st.tab.get id=some o /\ aH (L id)=some k:=fun k ⟨id,hid,hbl⟩=>(LB.1 (hids id hid)).elim fun ob hob=>⟨id,ob,hob,hbl⟩
       have hz:Fz w st.tab L w2 st2.tab L2:=by
        have hsz:w.drew.heap.size=w.heap.size:=rfl;refine ⟨h5.size,fun k hk hn=>h5.block k hk fun hg=>?_,fun id o g h12 h13 h14=>?_⟩
        .obtain ⟨id,ob,h12,h13⟩:=hG k hg;exact hn id ob h12 h13
        .rcases Ld id st.next with hlt | hge
         .obtain ⟨o',ho'⟩:=h7.old id o hlt h12;exact ⟨id,o',ho',by rw [<- h7.loc id hlt];exact h13⟩
         .rcases h6 id o g hge h12 h13 with h15 | h15
          .have:w.heap.size<=g:=h15;omega
          .exact hG g h15
       exact ⟨st3,L3,h9,h10,hz.trans h11,h8⟩
      .refine ⟨((h'.lay.objs id _ hg).ge hbl).2,fun ⟨id',hid',hbl'⟩=>hni ?_⟩;obtain ⟨ob,hob⟩:=LB.1 (hids id' hid');exact h.lay.sep id id' _ ob g hg hob hbl hbl' ▸ hid'
 | seq x y ihx ihy=>
  intro hf Q a w st L h hp;simp only [gh,Li] at hf;unfold bC at hp;refine wp_seq (Code.wp_mono (fun e a' w' ⟨st',L',h1,h2,h3,h4⟩=>?_) (ihx hf.1 _ a w st L h hp))
  cases e with
  | normal=>exact Code.wp_mono (fun e a2 w2 ⟨st2,L2,k1,k2,k3,k4⟩=>⟨st2,L2,k1,k2,h3.trans k3,h4.trans k4⟩) (ihy hf.2 Q a' w' st' L' h2 h1)
  | _=>exact ⟨st',L',h1,h2,h3,h4⟩
 | cond c x y ihx ihy=>
  intro hf Q a w st L h hp;simp only [gh,Li] at hf;unfold bC uB at hp;split at hp
  .rename_i b hb;have hv:=(aj h c).1;rw [hb] at hv;have hv:=hv.c_inv;cases b
   .exact wp_cond_false hv (ihy hf.2 Q a w st L h hp)
   .exact wp_cond_true hv (ihx hf.1 Q a w st L h hp)
  .exact hp.elim
 | block id x ih=>
  intro hf Q a w st L h hp;simp only [gh] at hf;unfold bC at hp;refine wp_block (Code.wp_mono (fun e a' w' ⟨st',L',h1,h2,h3⟩=>?_) (ih hf _ a w st L h hp))
  cases e with
  | exit id'=>
   simp only [gF,Exit.inBlock] at h1 ⊢;split
   .rename_i e;rw [K5 e] at h1;exact ⟨st',L',h1,h2,h3⟩
   .rename_i e;rw [KY e] at h1;exact ⟨st',L',h1,h2,h3⟩
  | _=>exact ⟨st',L',h1,h2,h3⟩
 | loop x ih=>
  intro hf Q a0 w0 st0 L0 h hp;simp only [gh] at hf;unfold bC at hp;obtain ⟨I,μ,⟨st1,hw1,hI⟩,hr⟩:=hp
  let p:Act -> World -> Nat -> Prop:=fun a w n=>∃ st L,I st /\ aI cx a w st L /\ (Fz w0 st0.tab L0 w st.tab L /\ bU (fun k=>k=t) a0 a) /\ μ st=n
  obtain ⟨L1,hL1,hz1⟩:=rG hw1 h;refine wp_loop (fun a w=>∃ n,p a w n) (fun a w=>mz (p a w)) ⟨_,st1,L1,hI,hL1,⟨hz1,.refl a0⟩,rfl⟩ fun a w hpa=>?_;obtain ⟨⟨st,L,h1,h2,⟨h3,h3a⟩,h4⟩,_⟩:=jf hpa;refine Code.wp_mono (fun e a' w' ⟨st',L',h5,h6,h7,h8⟩=>?_) (ih hf _ a w st L h2 (hr st h1))
  cases e with
  | normal=>
   obtain ⟨st'',hw,hI'',hlt⟩:=h5;obtain ⟨L1,hL1,hz1⟩:=rG hw h6;have hpn:p a' w' (μ st''):=⟨st'',L1,hI'',hL1,⟨(h3.trans h7).trans hz1,h3a.trans h8⟩,rfl⟩;refine ⟨⟨_,hpn⟩,?_⟩;have:=(jf ⟨_,hpn⟩).2 _ hpn;show mz (p a' w')<mz (p a w);omega
  | _=>exact ⟨st',L',h5,h6,h3.trans h7,h3a.trans h8⟩
 | exit id=>exact fun _ Q a w st L h hp=>wp_exit ⟨st,L,hp,h,Fz.refl,.refl a⟩
 | ret=>exact fun _ Q a w st L h hp=>wp_ret ⟨st,L,hp,h,Fz.refl,.refl a⟩
 | label l=>exact fun _ Q a w st L h hp=>wp_label ⟨st,L,hp,h,Fz.refl,.refl a⟩
 | scope x ih=>
  intro hf Q a w st L h hp;simp only [gh] at hf;unfold bC at hp;refine wp_scope_straight (Code.wp_mono (fun e a' w' ⟨st',L',h1,h2⟩=>?_) (ih hf _ a w st L h hp))
  cases e with
  | goto l=>exact h1
  | _=>exact ⟨st',L',h1,h2⟩
 | _=>exact fun hf=>(by cases hf)
end
end
section
section
variable {P:Program} {rs:List ResultVar} {vs:Array Value} {n nx g k i:Nat} {K:AV -> ak -> Prop} {st:ak} {o:ar} {T:aa}
theorem dp:aa.shift k []=[]:=rfl
theorem eT:aa.shift k ((i,some o) :: T)=(i+k,some (o.shift k)) :: aa.shift k T:=rfl
theorem fQ:aa.shift k ((i,none) :: T)=(i+k,none) :: aa.shift k T:=rfl
end
section
variable {P:Program} {cx:Cx} {a:Act} {w:World} {st:ak} {L:Nat -> Value}
end
theorem F6 {cx:Cx} {a:Act} {w:World} {st st':ak} {L L':Nat -> Value} (h1:aI cx a w st' L') (h2:∀ b,Sx cx w st.tab L b -> Sx cx w st'.tab L' b):Fz w st.tab L w st'.tab L':=by
 refine ⟨KW _,fun _ _ _=>rfl,fun id o g h3 h4 h5=>?_⟩;refine Classical.byContradiction fun hno=>?_;have hS:Sx cx w st.tab L g:=⟨h5,⟨.inr ((h1.lay.objs id o h3).ge h4).1,fun hX=>(h1.lay.ex g hX).2 id o h3 h4⟩,fun id2 o2 h6 h7=>hno ⟨id2,o2,h6,h7⟩⟩;exact (h2 g hS).2.2 id o h3 h4
theorem jj {P : Program} (hm : P.follows .mixedOrders = true) {f : FuncId} {fn : Func} {c : Code} (hf : P.funcs[f]? = some fn) (hb : fn.body = some c) (hname : (fn.name == "runtime.NumGoroutine") = false) {n : Nat} (hnt : fn.ntmps = n) {rs : List ResultVar} (hrs : fn.results = rs.toArray)
  {t:TypeId} {cells:List AV} {objs:List ar} {rest:List AV} {Post:AV -> List AV -> List ar -> Prop} (hn:Nat.ble (rest.length+1) n=true) (hz:gh 0 c=true) (hlt:AV.ltL (objs.length+1) cells) (hpl:∀ o ∈ objs,aF o)
  (h:bC P c (F9 P rs t cells.length Post) ⟨n,da 0 (.op 0 0 0 :: rest),aE 0 (.box t cells :: objs),objs.length+1⟩):zZ P f t cells objs rest Post:=by
 have hn:=MI hn;subst hnt;refine ⟨fun vs w=>?_,hlt,fun cx w L vs hlay hvn hv0 hvr=>?_⟩
 ·have : ¬ fn.name = "runtime.NumGoroutine" := by simpa using hname
  simp [callFunc,Sem.run_bind,hf,this,hb]
 obtain ⟨tab0,ht0⟩:∃ tab0,tab0=aE 0 (ar.box t cells :: objs):=⟨_,rfl⟩;rw [<- ht0] at hlay hvr h ⊢;have hget0:tab0.get 0=some (.box t cells):=by rw [ht0,bV];rfl
 obtain ⟨g,cs,hLb,_,hheap,_⟩:=hlay.objs 0 _ hget0;have hvz:∃ x,vs[0]? = some x:=⟨_,KT (by omega)⟩;obtain ⟨x0,hx0⟩:=hvz;obtain rfl:=hv0 x0 hx0
 have hC:aI cx { tmps:=vs ++ Array.replicate (fn.ntmps - vs.size) undef,defers:=[] } w ⟨fn.ntmps,da 0 (.op 0 0 0 :: rest),tab0,objs.length+1⟩ L:=by
  refine ⟨hlay,?_,iV.nil _ _ _,fun id o ho=>?_,fun k=>?_⟩
  .simp;omega
  .rw [ht0,bV] at ho;simp only [KR,if_true,Nat.sub_zero] at ho;have hlen:=(KS.1 ho).1;refine ⟨by simpa using hlen,?_⟩
   cases id with
   | zero=>
    simp at ho;subst ho;exact hlt
   | succ id=>exact ko (hpl o (KO (by simpa using ho))) _
  have e:(⟨fn.ntmps,da 0 (.op 0 0 0 :: rest),tab0,objs.length+1⟩:ak).get k=(AV.op 0 0 0 :: rest).getD k .any:=by
   show (if k<fn.ntmps then bl (da 0 (.op 0 0 0 :: rest)) k else .any)=_;rw [gL];split
   .simp
   .simp [List.getD,Lh (show (AV.op 0 0 0 :: rest).length<=k by simp;omega)]
  rw [e];by_cases hlt':k<rest.length+1
  .have ht':k<vs.size:=by omega
   have e2:(vs ++ Array.replicate (fn.ntmps - vs.size) undef).getD k undef=vs[k]:=by
    rw [LA,LY ht',KT ht'];rfl
   rw [e2]
   cases k with
   | zero=>
    have e3:vs[0]=L 0:=by
     have h0:vs[0]? = some vs[0]:=KT (by omega);exact Mk (h0.symm.trans hx0)
    rw [e3,hLb]
    exact ⟨.op _ 0 0 0 fun sz v' hk=>by
     simp [Kx,hget0,hLb] at hk;rw [<- hk.2];exact ⟨g,rfl,by simp⟩,Nat.succ_pos _⟩
   | succ k=>
    have hr:k<rest.length:=(by omega);have e4:(AV.op 0 0 0 :: rest).getD (k+1) .any=rest[k]:=(by simp [List.getD,hr]);rw [e4];have:=hvr k _ _ (KT ht') (KN hr);exact ⟨.tree this,this.lt _⟩
  .have e3:(AV.op 0 0 0 :: rest).getD k .any=.any:=(by simp [List.getD,Lh (show (AV.op 0 0 0 :: rest).length<=k by simp;omega)]);rw [e3];exact ⟨.tree (.any _),trivial⟩
 refine calls_of_wp hf hb (Code.wp_mono (fun ex a' w' ⟨st',L',h1,h2,h3,hA⟩=>?_) (uw hm 0 c hz _ _ w _ _ hC h))
 have h50:a'.tmps.getD 0 undef=L 0:=by
  rw [hA.slots 0 rfl,LA,LY (by omega),hx0];rfl
 have key:(cy P st' rs fun avs=>∃ cells' objs',Post (iZ avs) cells' objs' /\ iv (iZ avs) /\ (cells'.length=cells.length /\ AV.ltL (objs'.length+1) cells' /\ ∀ o ∈ objs',aF o) /\ dq st' ⟨st'.n,[(0,.op 0 0 0)],aE 0 (.box t cells' :: objs'),objs'.length+1⟩) ->
   a'.defers=[] /\ ∃ u,(results fn a'.tmps).run P w'=.ok u w' /\ ∃ v av cells' objs' L',Ending.returned u=.returned v /\ Post av cells' objs' /\ fY cx w' (aE 0 (.box t cells' :: objs')) L' /\ RT w' (Sx cx w' (aE 0 (.box t cells' :: objs')) L') v av /\ L' 0=L 0 /\ cells'.length=cells.length /\
   AV.ltL (objs'.length+1) cells' /\ (∀ o ∈ objs',aF o) /\ Fz w tab0 L w' (aE 0 (.box t cells' :: objs')) L':=fun h1=>by
  obtain ⟨u,av,⟨cells',objs',hPost,hro,⟨hl1,hl2,hl3⟩,hw⟩,hrv,hrun⟩:=vK (K:=fun av=>∃ cells' objs',Post av cells' objs' /\ iv av /\ (cells'.length=cells.length /\ AV.ltL (objs'.length+1) cells' /\ ∀ o ∈ objs',aF o) /\ dq st' ⟨st'.n,[(0,.op 0 0 0)],aE 0 (.box t cells' :: objs'),objs'.length+1⟩) (fn:=fn) h2 (by rw [hrs];exact h1);obtain ⟨L2,hC2,hS2⟩:=hw _ _ _ _ h2;refine ⟨hA.defers,u,hrun,u,av,cells',objs',L2,rfl,hPost,hC2.lay,(F8 hrv hro).mono (fun _ _=>rfl) hS2,?_,hl1,hl2,hl3,h3.trans (F6 hC2 hS2)⟩;have hget2:(aE 0 (ar.box t cells' :: objs')).get 0=some (.box t cells'):=by rw [bV];rfl
  obtain ⟨g2,cs2,hL2,_⟩:=hC2.lay.objs 0 _ hget2;have hr:=(hC2.env 0).1
  have e5:(⟨st'.n,[(0,.op 0 0 0)],aE 0 (.box t cells' :: objs'),objs'.length+1⟩:ak).get 0=.op 0 0 0:=by
   have:0<st'.n:=by
    have h6:=h2.size;refine Nat.pos_of_ne_zero fun h7=>?_;have h8:a'.tmps = #[]:=Array.eq_empty_of_size_eq_zero (by omega);rw [h8,hLb] at h50;cases h50
   simp [ak.get,bl,this]
  rw [e5,h50] at hr;obtain ⟨g3,hg3,he⟩:=hr.op_inv _ _ (bI hget2);rw [hL2] at hg3 ⊢;cases hg3;rw [he];simp
 cases ex with
 | normal=>exact key h1
 | ret=>exact key h1
 | _=>exact h1.elim
theorem fq (l:List Nat):∀ {cs:List AV},bu cs -> AV.renL l cs=cs
 | [],_=>rfl
 | a :: cs,h=>by
  have h1:b7 a:=h.1;have h2:=fq l (cs:=cs) h.2;show a.ren l :: AV.renL l cs=a :: cs;rw [h2];cases a<;>first|rfl|exact (h1:False).elim
theorem IP (l:List Nat) {a:AV} (h:iv a):a.ren l=a:=by
 cases a with
 | osl=>exact h.elim
 | op=>exact h.elim
 | tup=>exact h.elim
 | agg cs=>show AV.agg _=_;rw [fq l h]
 | fn f cs=>show AV.fn f _=_;rw [fq l h]
 | bfn f cs=>show AV.bfn f _=_;rw [fq l h]
 | _=>rfl
theorem sH (l:List Nat):∀ {cs:List AV},gb cs -> AV.renL l cs=cs
 | [],_=>rfl
 | a :: cs,h=>by
  show a.ren l :: AV.renL l cs=a :: cs;rw [IP l h.1,sH l h.2]
theorem zZ.toA {P:Program} {f:FuncId} {t:TypeId} {cells:List AV} {objs:List ar} {rest:List AV} {Post:AV -> List AV -> List ar -> Prop} (h:zZ P f t cells objs rest Post) (hro:gb rest):jL P f t cells objs (.op 0 0 0 :: rest) Post:=
 ⟨h.1,h.2.1,fun cx w L vs hlay hn hv=>h.2.2 cx w L vs hlay (by simpa using hn) (fun x hx=>by
  have hget0:(aE 0 (ar.box t cells :: objs)).get 0=some (.box t cells):=by rw [bV];rfl
  obtain ⟨g,h1,h2⟩:=(hv 0 x _ hx rfl).op_inv _ _ (bI hget0);obtain ⟨g',cs,h3,_⟩:=hlay.objs 0 _ hget0;rw [h3] at h1 ⊢;cases h1;simpa using h2) (fun j x av hx hav=>F8 (hv (j+1) x av hx (by simpa using hav)) (rT.1 hro av (KO hav)))⟩
theorem j9 {u:Option (Nat × List Nat)} {P:Program} {st:ak} {f:FuncId} {K:AV -> ak -> Prop} {t:TypeId} {cells:List AV} {objs:List ar} {args avs:List AV} {Post:AV -> List AV -> List ar -> Prop} {b:Nat} (ids:List Nat) (h:jL P f t cells objs args Post) (he:avs=AV.renL (b :: ids) args)
  (hb:st.tab.get b=some (.box t (AV.renL (b :: ids) cells))) (ho:s8 st.tab ids objs) (hd:(b :: ids).Nodup) (hu:∀ p,u=some p -> ∀ id ∈ b :: ids,iP p.1 p.2 id)
  (hk:∀ av cells' objs',Post av cells' objs' -> K av { st with tab:=fv st b ids t cells' objs',next:=st.next+objs'.length }):fk u P st f avs K:=
 .inr (.inr (.inl ⟨t,cells,objs,args,Post,b,ids,h,he,hb,ho,hd,hu,hk⟩))
def J6 (av:AV):Prop:=∀ (w w':World) (S S':Nat -> Prop) (K K':Nat -> Option (Nat × Value)) (x v v':Value) (s s':Nat),RV w S K x av -> RV w' S' K' x av -> K 0=some (s,v) -> K' 0=some (s',v') -> aH v=aH v'
theorem lD (i j:Nat):J6 (.op 0 i j):=fun w w' S S' K K' x v v' s s' h h' hk hk'=>by
 obtain ⟨g,h1,h2⟩:=h.op_inv _ _ hk;obtain ⟨g',h3,h4⟩:=h'.op_inv _ _ hk';rw [h2] at h4;simp at h4;rw [h1,h3,h4.1]
end
section
open Go.RowKit Go.Shelf
theorem yR {cx:Cx} {w:World} {L:Nat -> Value} {vs:Array Value} {t:TypeId} {cells:List AV} {objs:List ar} {args:List AV} (hlt:AV.ltL (objs.length+1) cells) (hla:AV.ltL (objs.length+1) args) (hpl:∀ o ∈ objs,aF o)
  (hlay:fY cx w (aE 0 (.box t cells :: objs)) L) (hvn:vs.size=args.length) (hv:∀ (j:Nat) (x:Value) (av:AV),vs[j]? = some x -> args[j]? = some av -> bx cx w (aE 0 (.box t cells :: objs)) L x av) :
  aI cx { tmps:=vs,defers:=[] } w ⟨args.length,da 0 args,aE 0 (.box t cells :: objs),objs.length+1⟩ L:=by
 refine ⟨hlay,by simpa using hvn,iV.nil _ _ _,fun id o ho=>?_,fun k=>?_⟩
 .rw [bV] at ho;simp only [KR,if_true,Nat.sub_zero] at ho;have hlen:=(KS.1 ho).1;refine ⟨by simpa using hlen,?_⟩
  cases id with
  | zero=>
   simp at ho;subst ho;exact hlt
  | succ id=>exact ko (hpl o (KO (by simpa using ho))) _
 .have e:(⟨args.length,da 0 args,aE 0 (.box t cells :: objs),objs.length+1⟩:ak).get k=args.getD k .any:=by
   show (if k<args.length then bl (da 0 args) k else .any)=_;rw [gL];split
   .simp
   .simp [List.getD,Lh (show args.length<=k by omega)]
  rw [e];by_cases hlt':k<args.length
  .have ht':k<vs.size:=by omega
   have e2:vs.getD k undef=vs[k]:=by
    rw [LA,KT ht'];rfl
   rw [e2];have e4:args.getD k .any=args[k]:=(by simp [List.getD,hlt']);rw [e4];exact ⟨hv k _ _ (KT ht') (KN hlt'),ag.1 hla _ (KQ hlt')⟩
  .have e3:args.getD k .any=.any:=(by simp [List.getD,Lh (Nat.le_of_not_lt hlt')]);rw [e3];exact ⟨.tree (.any _),trivial⟩
theorem tN (b:Nat) (w:World) (h0:w.cell? ⟨b,0,none⟩=some (.pointer none)) (hsh:w.shape? b=some (135,13)) (hfz:w.frozen? ⟨b,0,none⟩=false) :
  Calls Tryz.prog 142 #[.pointer (some ⟨b,0,none⟩)] w fun e w'=>e=.returned (.tuple #[]) /\ w'=w.setCell ⟨b,0,none⟩ (.pointer (some ⟨b,0,none⟩)):=by
 obtain ⟨j,hj,hjs⟩:=Option.map_eq_some_iff.1 Tryz.Builder_Extra_156.sizeBuilder;have L:=Tryz.lays156;have mixed:=L.mixed;have t72:=L.t72;have a72:=L.a72;have z72:=L.z72;have v72:=L.v72;have u72:=run_underlying L.t72;have t70:=L.t70;have a70:=L.a70;have z70:=L.z70;have v70:=L.v70;have u70:=run_underlying L.t70;have t9:=L.t9;have a9:=L.a9;have z9:=L.z9;have v9:=L.v9;have u9:=run_underlying L.t9;have t4:=L.t4;have a4:=L.a4;have z4:=L.z4;have v4:=L.v4;have u4:=run_underlying L.t4;have t164:=L.t164;have a164:=L.a164;have z164:=L.z164;have v164:=L.v164;have u164:=run_underlying L.t164
 go_enter L.f240,Body.n240_ntmps Tryz.lays156_ren
 go_wp2
 rw [Lib.run_to_unsafe w ⟨b,0,none⟩ L.t70 L.t164 hj (by rw [hjs];decide) hsh (Nat.zero_lt_succ 12)];simp only [Result.andThen];rw [Oper.upon_value]
 go_wp2
 rw [run_callFunc_extern L.f276 (by kernel_rfl) (by kernel_rfl) (by kernel_rfl) (e:=Extern.AbiNoEscape.same) (by kernel_rfl)];rw [Lib.run_noEscape];simp only [Result.andThen];rw [Oper.upon_value]
 go_wp2
 rw [Lib.run_from_unsafe w ⟨b,0,none⟩ L.t164 L.t70 hj hsh (by kernel_rfl)];simp only [Result.andThen];rw [Oper.upon_value]
 go_wp2
 go_end0
 exact ⟨rfl,rfl⟩
end
section
theorem ub (x:Int):bits .and .i64 x 1=x % 2:=by
 show IntKind.i64.wrap ((BitVec.ofInt 64 x &&& BitVec.ofInt 64 1).toNat:Int)=_
 have h:(BitVec.ofInt 64 x &&& BitVec.ofInt 64 1).toNat=(x % 2).toNat:=by
  rw [BitVec.toNat_and,show (BitVec.ofInt 64 1).toNat=1 from rfl,Nat.and_one_is_mod,BitVec.toNat_ofInt];omega
 rw [h]
 have:IntKind.i64.wrap (((x % 2).toNat:Nat):Int)=((x % 2).toNat:Int):=by
  simp [IntKind.wrap,IntKind.bits,IntKind.signed];omega
 rw [this];omega
structure aJ where
 op:Int
 la:Int
 ln:Int
 ra:Int
 rn:Int
 n:Int
 u:Int
structure St where
 vals:List Int
 opn:Int
 don:Int
 did:List Int
 cnt:List Int
def aW (s i:Int):Bool:=decide (0<=i) && decide (i<31) && (s / 2 ^ i.toNat % 2 == 1)
def Ko (op c:Int):Bool:=
 if op=3 then decide (c<0) else if op=4 then decide (c<=0) else if op=5 then decide (0<c) else if op=6 then decide (0<=c) else if op=7 then c == 0 else if op=8 then c != 0 else false
def zH (a b:Int):Int:=if a<b then -1 else if b<a then 1 else 0
def p3 (vals:List Int) (a n:Int):Option Int:=if a = -1 then some n else if a<0 then none else vals[a.toNat]?
def bm (op:Int):Int:=
 if 1<=op /\ op<=14 then 0 else if op=15 \/ (19<=op /\ op<=24) then 1 else if (16<=op /\ op<=18) \/ op=25 \/ op=26 then 2 else -1
def rr (d:Nat) (op:Int):Option Nat:=
 if bm op=0 then some (d+1) else if bm op=1 /\ 1<=d then some d else if bm op=2 /\ 2<=d then some (d - 1) else none
def eu:List Int -> Nat -> Option Nat
 | [],d=>some d
 | op :: l,d=>match rr d op with
  | some d'=>eu l d'
  | none=>none
def cp (l:List Int):Int:=if l.length=0 then 12 else if 64<l.length then 3 else if eu l 0=some 1 then 0 else 17
def gn (cm:aJ -> Option Int) (opn don:Int) (x:aJ) (r:List Bool):Option (List Bool):=
 if x.op=1 \/ x.op=2 then some ((x.op == 1) :: r)
 else if 3<=x.op /\ x.op<=8 then
  match cm x with
  | some c=>some (Ko x.op c :: r)
  | none=>none
 else if x.op=9 then some (aW opn x.n :: r)
 else if x.op=10 then some (aW don x.n :: r)
 else if x.op=15 then
  match r with
  | a :: r=>some ((!a) :: r)
  | []=>none
 else if 16<=x.op /\ x.op<=18 then
  match r with
  | b :: a :: r=>some ((if x.op=16 then a && b else if x.op=17 then a || b else !a || b) :: r)
  | _=>none
 else none
def d8 (cm:aJ -> Option Int) (opn don:Int):List aJ -> List Bool -> Option (List Bool)
 | [],r=>some r
 | x :: l,r=>match gn cm opn don x r with
  | some r'=>d8 cm opn don l r'
  | none=>none
def pm (cm:aJ -> Option Int) (opn don:Int) (l:List aJ):Option Bool:=
 if cp (l.map aJ.op) ≠ 0 then none else
  match d8 cm opn don l [] with
  | some (b :: _)=>some b
  | _=>none
def s9 (vals:List Int) (x:aJ):Option Int:=match p3 vals x.la x.ln,p3 vals x.ra x.rn with
 | some a,some b=>some (zH a b)
 | _,_=>none
def gO (l:List aJ) (s:St):Option Bool:=pm (s9 s.vals) s.opn s.don l
def qj (o:Option Bool):Bool:=o.getD false
def zE (o:Option Bool):Int:=if o.isSome then 0 else 17
end
section
open Go.RowKit Go.ChangeShapes Go.WideShapes Go.Deep
structure gV (α:Type) where
 size:Nat
 at_:World -> (Nat -> Prop) -> List Value -> α -> Prop
 len:∀ {w:World} {S:Nat -> Prop} {cs:List Value} {a:α},at_ w S cs a -> cs.length=size
 keep:∀ {w w':World} {S:Nat -> Prop} {cs:List Value} {a:α},at_ w S cs a -> (∀ p:Addr,S p.block -> w'.cell? p=w.cell? p) -> at_ w' S cs a
 mono:∀ {w:World} {S S':Nat -> Prop} {cs:List Value} {a:α},at_ w S cs a -> (∀ b,S b -> S' b) -> at_ w S' cs a
def gV.one {α:Type} (r:gV α) (w:World) (S:Nat -> Prop) (v:Value) (a:α):Prop:=r.at_ w S [v] a
def ey (k:IntKind):gV Int where
 size:=1
 at_:=fun _ _ cs n=>cs=[.int k n] /\ (Lit.int k n).wf=true
 len:=fun h=>by rw [h.1];rfl
 keep:=fun h _=>h
 mono:=fun h _=>h
def yb:gV Bool where
 size:=1
 at_:=fun _ _ cs b=>cs=[.bool b]
 len:=fun h=>by rw [h];rfl
 keep:=fun h _=>h
 mono:=fun h _=>h
def n9:gV ByteArray where
 size:=1
 at_:=fun _ _ cs s=>cs=[.string s] /\ s.size<=9223372036854775807
 len:=fun h=>by rw [h.1];rfl
 keep:=fun h _=>h
 mono:=fun h _=>h
def ru {α:Type} (r:gV α) (w:World) (S:Nat -> Prop) (b o:Nat) (l:List α):Prop:=
 ∀ i (h:i<l.length),∃ cs,(∀ j u,cs[j]? = some u -> w.cell? ⟨b,o+i * r.size+j,none⟩=some u) /\ r.at_ w S cs l[i]
theorem wD {α:Type} {r:gV α} {w w':World} {S:Nat -> Prop} {b o:Nat} {l:List α} (h:ru r w S b o l) (hb:S b) (hk:∀ p:Addr,S p.block -> w'.cell? p=w.cell? p):ru r w' S b o l:=by
 intro i hi;obtain ⟨cs,h1,h2⟩:=h i hi;exact ⟨cs,fun j u hu=>(hk _ hb).trans (h1 j u hu),r.keep h2 hk⟩
theorem wI {α:Type} {r:gV α} {w:World} {S S':Nat -> Prop} {b o:Nat} {l:List α} (h:ru r w S b o l) (hB:∀ b,S b -> S' b):ru r w S' b o l:=by
 intro i hi;obtain ⟨cs,h1,h2⟩:=h i hi;exact ⟨cs,h1,r.mono h2 hB⟩
def aY {α:Type} (r:gV α):gV (List α) where
 size:=1
 at_:=fun w S cs l=>∃ A c,cs=[.slice A l.length c] /\ l.length<=c /\ c<=9223372036854775807 /\ (0<l.length -> ∃ b o,A=some ⟨b,o,none⟩ /\ S b /\ ru r w S b o l)
 len:=fun ⟨A,c,h,_⟩=>by rw [h];rfl
 keep:=fun ⟨A,c,h1,h2,h3,h4⟩ hk=>⟨A,c,h1,h2,h3,fun hl=>by
  obtain ⟨b,o,e,hb,hr⟩:=h4 hl;exact ⟨b,o,e,hb,wD hr hb hk⟩⟩
 mono:=fun ⟨A,c,h1,h2,h3,h4⟩ hB=>⟨A,c,h1,h2,h3,fun hl=>by
  obtain ⟨b,o,e,hb,hr⟩:=h4 hl;exact ⟨b,o,e,hB b hb,wI hr hB⟩⟩
def bS {α β:Type} (r:gV α) (s:gV β):gV (α × β) where
 size:=r.size+s.size
 at_:=fun w S cs x=>∃ c1 c2,cs=c1 ++ c2 /\ r.at_ w S c1 x.1 /\ s.at_ w S c2 x.2
 len:=fun ⟨c1,c2,h,h1,h2⟩=>by rw [h,f4,r.len h1,s.len h2]
 keep:=fun ⟨c1,c2,h,h1,h2⟩ hk=>⟨c1,c2,h,r.keep h1 hk,s.keep h2 hk⟩
 mono:=fun ⟨c1,c2,h,h1,h2⟩ hB=>⟨c1,c2,h,r.mono h1 hB,s.mono h2 hB⟩
def oX:gV Unit where
 size:=0
 at_:=fun _ _ cs _=>cs=[]
 len:=fun h=>by rw [h];rfl
 keep:=fun h _=>h
 mono:=fun h _=>h
theorem cO {n:Int} (h:(Lit.int .i64 n).wf=true):-9223372036854775808<=n /\ n<=9223372036854775807:=by
 simpa [Lit.wf,IntKind.min,IntKind.max,IntKind.signed,IntKind.bits] using h
theorem Ah {n:Int} (h1:-9223372036854775808<=n) (h2:n<=9223372036854775807):(Lit.int .i64 n).wf=true:=by
 simp [Lit.wf,IntKind.min,IntKind.max,IntKind.signed,IntKind.bits];omega
section
variable {α:Type} {r:gV α} {w w':World} {S:Nat -> Prop} {v:Value} {l:List α}
theorem fE (h:(aY r).one w S v l):∃ A c,v=.slice A l.length c /\ l.length<=c /\ c<=9223372036854775807:=by
 obtain ⟨A,c,h1,h2,h3,_⟩:=h;exact ⟨A,c,by simpa using h1,h2,h3⟩
theorem ja {A:Option Addr} {n c:Nat} (h:(aY r).one w S (.slice A n c) l) (hn:0<l.length):∃ b o,A=some ⟨b,o,none⟩ /\ S b /\ ru r w S b o l:=by
 obtain ⟨A',c',h1,_,_,h4⟩:=h;simp at h1;obtain ⟨rfl,_,_⟩:=h1;exact h4 hn
theorem yV (hs:r.size=1) {b o c:Nat} {n:Nat} (h:(aY r).one w S (.slice (some ⟨b,o,none⟩) n c) l) {k:Nat} (hk:k<l.length):∃ u,w.cell? ⟨b,o+k,none⟩=some u /\ r.at_ w S [u] l[k]:=by
 obtain ⟨b',o',e,_,hr⟩:=ja h (by omega);simp at e;obtain ⟨rfl,rfl⟩:=e;obtain ⟨cs,h1,h2⟩:=hr k hk;have hl:=r.len h2;rw [hs] at hl h1
 match cs,hl with
 | [u],_=>exact ⟨u,by simpa using h1 0 u rfl,h2⟩
theorem zW (w:World) (S:Nat -> Prop) (r:gV α):(aY r).one w S (.slice none 0 0) []:=⟨none,0,rfl,KW _,by omega,fun h=>absurd h (by simp)⟩
theorem li (h:(aY r).one w S v l) {S':Nat -> Prop} (hB:∀ b,S b -> S' b):(aY r).one w S' v l:=gV.mono (aY r) h hB
theorem lg (h:(aY r).one w S v l) (hk:∀ p:Addr,S p.block -> w'.cell? p=w.cell? p):(aY r).one w' S v l:=gV.keep (aY r) h hk
end
theorem FV {w:World} {S:Nat -> Prop} {b o c n:Nat} {l:List Int} (h:(aY (ey .i64)).one w S (.slice (some ⟨b,o,none⟩) n c) l) {k:Nat} (hk:k<l.length) :
  w.cell? ⟨b,o+k,none⟩=some (.int .i64 l[k]) /\ -9223372036854775808<=l[k] /\ l[k]<=9223372036854775807:=by
 obtain ⟨u,h1,h2⟩:=yV (r:=ey .i64) rfl h hk;obtain ⟨h2,h3⟩:=h2;simp at h2;subst h2;exact ⟨h1,cO h3⟩
theorem vl {α:Type} {p:Nat -> α -> Prop}:∀ {n:Nat},(∀ i,i<n -> ∃ y,p i y) -> ∃ l:List α,l.length=n /\ ∀ i (h:i<l.length),p i l[i]:=by
 intro n
 induction n with
 | zero=>intro _;exact ⟨[],rfl,fun i h=>absurd h (by simp)⟩
 | succ n ih=>
  intro h;obtain ⟨l,h1,h2⟩:=ih fun i hi=>h i (by omega);obtain ⟨y,hy⟩:=h n (by omega);refine ⟨l ++ [y],by simp [h1],fun i hi=>?_⟩;by_cases hin:i<l.length
  .rw [Mv hin];exact h2 i hin
  .have:i=l.length:=by simp at hi;omega
   subst this;rw [MJ (by omega)];simpa [h1] using hy
def cL {α:Type} (P:Program) (t:TypeId) (r:gV α):Prop:=∀ (H:Type) (enc:TypeId × Value -> H) (w:World) (fuel:Nat) (cs:List Value) (x:DataW H × List MemPlace),
 DataW.trod enc P w 0 (fun _=>true) true fuel t cs=some x -> ∃ a,r.at_ w (fun b=>b<w.heap.size) cs a
section
variable {P:Program}
theorem qG {t:TypeId} {k:IntKind} (h:P.underlying t=some (.int k)):cL P t (ey k):=by
 intro H enc w fuel cs x hx;obtain ⟨n,rfl,_,hw⟩:=DataW.trod_int h hx;exact ⟨n,rfl,hw⟩
theorem wa {t:TypeId} (h:P.underlying t=some .bool):cL P t yb:=by
 intro H enc w fuel cs x hx;obtain ⟨b,rfl,_⟩:=DataW.trod_bool h hx;exact ⟨b,rfl⟩
theorem bH {α:Type} {t e:TypeId} {r:gV α} (ht:P.underlying t=some (.slice e)) (hs:P.cellsOf e=r.size) (hp:0<r.size) (ho:cL P e r):cL P t (aY r):=by
 intro H enc w fuel cs x hx;rcases Go.Deep.open_slice ht hx with ⟨rfl,_⟩|⟨a,len,cap,m,n,D,Pl,rfl,_,hl,hm,hmm,_,hi⟩
 .exact ⟨[],zW _ _ _⟩
 .simp only [if_true] at hmm;subst hmm
  obtain ⟨l,hll,hl2⟩:=vl (n:=len) (p:=fun i y=>∃ cs',w.cells? 0 (a.add (i * P.cellsOf e)) (P.cellsOf e)=some cs' /\ r.at_ w (fun b=>b<w.heap.size) cs' y) (fun i hil=>by
   obtain ⟨cs',h1,h2⟩:=hi i (by omega);obtain ⟨y,hy⟩:=ho H enc w n cs' _ h2;exact ⟨y,cs',h1,hy⟩)
  subst hll;refine ⟨l,some a,_,rfl,hl,by simpa [maxLen] using hm,fun h0=>?_⟩;obtain ⟨cs0,h1,h2⟩:=hl2 0 h0;obtain ⟨_,hlen,hc⟩:=World.cells?_some h1;have hc0:=hc 0 (by omega);have hlt:0<cs0.length:=by rw [hlen];omega
  rw [KN hlt] at hc0;have e0:(a.add (0 * P.cellsOf e)).add 0=a:=by simp [Addr.add]
  rw [e0] at hc0;have hb:=World.block_lt_of_cell? w a hc0
  have hsp:a.spot=none:=by
   unfold World.cell? at hc0;split at hc0
   .split at hc0
    .cases hc0
    .rename_i h5;simpa using h5
   .cases hc0
  obtain ⟨b,o,sp⟩:=a;simp only at hsp hb;subst hsp;refine ⟨b,o,rfl,hb,fun i hi'=>?_⟩;obtain ⟨cs',h1,h2⟩:=hl2 i hi';refine ⟨cs',fun j u hu=>?_,h2⟩;obtain ⟨_,hlen',hc'⟩:=World.cells?_some h1
  have hj:j<P.cellsOf e:=by
   have:=(KS.1 hu).1;omega
  have:=hc' j hj;rw [hu,Go.Deep.add_add,hs] at this;rw [<- this]
  congr 1
  unfold Addr.add;split
  .rename_i h6;simp_all
  .simp [Mj]
end
end
section
def aq (n:Int):Prop:=-9223372036854775808<=n /\ n<=9223372036854775807
def aJ.cells (x:aJ):List Value:=[.int .i64 x.op,.int .i64 x.la,.int .i64 x.ln,.int .i64 x.ra,.int .i64 x.rn,.int .i64 x.n,.int .i64 x.u]
def aJ.ok (x:aJ):Prop:=aq x.op /\ aq x.la /\ aq x.ln /\ aq x.ra /\ aq x.rn /\ aq x.n /\ aq x.u
def lW:gV aJ where
 size:=7
 at_:=fun _ _ cs x=>cs=x.cells /\ x.ok
 len:=fun h=>by rw [h.1];rfl
 keep:=fun h _=>h
 mono:=fun h _=>h
end
section
open Go.RowKit Go.ChangeShapes Go.WideShapes Go.Deep
def sY {α:Type} (P:Program) (fs:List Field) (off:Nat) (r:gV α):Prop:=∀ (H:Type) (enc:TypeId × Value -> H) (w:World) (fuel:Nat) (cs:List Value),
 off+r.size<=cs.length -> (∀ (i:Nat) (f:Field),fs[i]? = some f -> ∃ x,DataW.trod enc P w 0 (fun _=>true) true fuel f.type ((cs.drop f.offset).take (P.cellsOf f.type))=some x) ->
 ∃ a,r.at_ w (fun b=>b<w.heap.size) ((cs.drop off).take r.size) a
theorem cN (P:Program) (off:Nat):sY P [] off oX:=fun _ _ _ _ _ _ _=>⟨(),by simp [oX]⟩
theorem ax {α β:Type} {P:Program} {f:Field} {fs:List Field} {off:Nat} {r:gV α} {s:gV β} (ho:f.offset=off) (hc:P.cellsOf f.type=r.size) (h1:cL P f.type r) (h2:sY P fs (off+r.size) s):sY P (f :: fs) off (bS r s):=by
 intro H enc w fuel cs hl hf;have hlr:off+(r.size+s.size)<=cs.length:=hl;obtain ⟨x,hx⟩:=hf 0 f rfl;obtain ⟨a,ha⟩:=h1 H enc w fuel _ _ hx;obtain ⟨b,hb⟩:=h2 H enc w fuel cs (by omega) (fun i g hg=>hf (i+1) g (by simpa using hg));refine ⟨(a,b),_,_,?_,ha,hb⟩;rw [ho,hc];show List.take (r.size+s.size) (cs.drop off)=_;rw [List.take_add,List.drop_drop]
theorem b6 {α:Type} {P:Program} {t:TypeId} {fs:Array Field} {r:gV α} (ht:P.underlying t=some (.struct fs)) (hc:P.cellsOf t=r.size) (ho:sY P fs.toList 0 r):cL P t r:=by
 intro H enc w fuel cs x hx;obtain ⟨xs,n,_,_,hl,hlen,hf⟩:=DataW.trod_struct ht hx
 obtain ⟨a,ha⟩:=ho H enc w n cs (by omega) (fun i f hfi=>by
  have hfi':fs[i]? = some f:=by simpa using hfi
  have h1:=hf i f hfi';have hi:i<xs.length:=by rw [hlen];exact (Lt.1 hfi').1
  exact ⟨xs[i],by rw [h1,KN hi]⟩)
 refine ⟨a,?_⟩
 rwa [List.drop_zero,Lj (by omega)] at ha
theorem sX {P:Program} {t:TypeId} (h:P.underlying t=some .string):cL P t n9:=by
 intro H enc w fuel cs x hx;obtain ⟨s,rfl,_,hs⟩:=DataW.trod_string h hx;exact ⟨s,rfl,by simpa [maxLen] using hs⟩
theorem fD {α β:Type} {P:Program} {t:TypeId} {r:gV α} {s:gV β} (h:cL P t r) (f:α -> β) (hf:∀ w S cs a,r.at_ w S cs a -> s.at_ w S cs (f a)):cL P t s:=by
 intro H enc w fuel cs x hx;obtain ⟨a,ha⟩:=h H enc w fuel cs x hx;exact ⟨f a,hf _ _ _ _ ha⟩
theorem qp {P:Program} {W:World} {r:Reach} {b:Nat} {t:TypeId} {fs:Array Field} {v:Value} (ht:P.underlying t=some (.struct fs)) (h:Value.okWide P W r b t v):∃ cs,v=.agg cs /\ cs.size=P.cellsOf t:=by
 simp only [Value.okWide,ht] at h;obtain ⟨cs,h1,h2,_⟩:=h;exact ⟨cs,h1,h2⟩
theorem aQ {α β:Type} {r:gV α} {s:gV β} {w:World} {S:Nat -> Prop} {cs:List Value} {p:α × β} (h:(bS r s).at_ w S cs p):∃ c1 c2,cs=c1 ++ c2 /\ r.at_ w S c1 p.1 /\ s.at_ w S c2 p.2:=h
theorem dR {α:Type} {r:gV α} {w:World} {S:Nat -> Prop} {cs:List Value} {a:α} (hr:r.size=1) (h:r.at_ w S cs a):∃ v,cs=[v] /\ r.one w S v a:=by
 have:=r.len h;rw [hr] at this
 match cs,this with
 | [v],_=>exact ⟨v,rfl,h⟩
end
section
structure Gd where
 stage:Int
 event:Int
 cond:List aJ
structure Ml where
 name:ByteArray
 stage:Int
 event:Int
 cond:List aJ
 final:Bool
structure Ev where
 name:ByteArray
 role:Int
 stage:Int
 sets:List Int
 times:Int
structure aR where
 attrs:List ByteArray
 inits:List Int
 users:List ByteArray
 roles:List (ByteArray × Int)
 stages:List (ByteArray × Int)
 events:List Ev
 guards:List Gd
 miles:List Ml
 sods:List (Int × Int)
 order:List (Bool × Int)
def DH (s:ByteArray):Prop:=s.size<=9223372036854775807
def eD:gV (ByteArray × Int) where
 size:=2
 at_:=fun _ _ cs x=>cs=[.string x.1,.int .i64 x.2] /\ DH x.1 /\ aq x.2
 len:=fun h=>by rw [h.1];rfl
 keep:=fun h _=>h
 mono:=fun h _=>h
def lP:gV (Int × Int) where
 size:=2
 at_:=fun _ _ cs x=>cs=[.int .i64 x.1,.int .i64 x.2] /\ aq x.1 /\ aq x.2
 len:=fun h=>by rw [h.1];rfl
 keep:=fun h _=>h
 mono:=fun h _=>h
def ma:gV (Bool × Int) where
 size:=2
 at_:=fun _ _ cs x=>cs=[.bool x.1,.int .i64 x.2] /\ aq x.2
 len:=fun h=>by rw [h.1];rfl
 keep:=fun h _=>h
 mono:=fun h _=>h
def JI:gV Gd where
 size:=3
 at_:=fun w S cs g=>∃ cv,cs=[.int .i64 g.stage,.int .i64 g.event,cv] /\ (aY lW).one w S cv g.cond /\ aq g.stage /\ aq g.event
 len:=fun ⟨_,h,_⟩=>by rw [h];rfl
 keep:=fun ⟨cv,h,h2,h3⟩ hk=>⟨cv,h,lg h2 hk,h3⟩
 mono:=fun ⟨cv,h,h2,h3⟩ hB=>⟨cv,h,li h2 hB,h3⟩
def JJ:gV Ml where
 size:=5
 at_:=fun w S cs g=>∃ cv,cs=[.string g.name,.int .i64 g.stage,.int .i64 g.event,cv,.bool g.final] /\ (aY lW).one w S cv g.cond /\ aq g.stage /\ aq g.event /\ DH g.name
 len:=fun ⟨_,h,_⟩=>by rw [h];rfl
 keep:=fun ⟨cv,h,h2,h3⟩ hk=>⟨cv,h,lg h2 hk,h3⟩
 mono:=fun ⟨cv,h,h2,h3⟩ hB=>⟨cv,h,li h2 hB,h3⟩
def JL:gV Ev where
 size:=5
 at_:=fun w S cs g=>∃ cv,cs=[.string g.name,.int .i64 g.role,.int .i64 g.stage,cv,.int .i64 g.times] /\ (aY (ey .i64)).one w S cv g.sets /\ aq g.role /\ aq g.stage /\ aq g.times /\ DH g.name
 len:=fun ⟨_,h,_⟩=>by rw [h];rfl
 keep:=fun ⟨cv,h,h2,h3⟩ hk=>⟨cv,h,lg h2 hk,h3⟩
 mono:=fun ⟨cv,h,h2,h3⟩ hB=>⟨cv,h,li h2 hB,h3⟩
def SI {α:Type} (r:gV α) (w:World) (v:Value) (l:List α):Prop:=(aY r).one w (fun b=>b<w.heap.size) v l
structure MV where
 attrs:Value
 inits:Value
 users:Value
 roles:Value
 stages:Value
 events:Value
 guards:Value
 miles:Value
 sods:Value
 order:Value
abbrev MV.cells (V:MV):Array Value:=#[V.attrs,V.inits,V.users,V.roles,V.stages,V.events,V.guards,V.miles,V.sods,V.order]
structure H4 (w:World) (V:MV) (m:aR):Prop where
 attrs:SI n9 w V.attrs m.attrs
 inits:SI (ey .i64) w V.inits m.inits
 users:SI n9 w V.users m.users
 roles:SI eD w V.roles m.roles
 stages:SI eD w V.stages m.stages
 events:SI JL w V.events m.events
 guards:SI JI w V.guards m.guards
 miles:SI JJ w V.miles m.miles
 sods:SI lP w V.sods m.sods
 order:SI ma w V.order m.order
end
section
theorem lq (i:Int) (w:World):Calls Tryz.prog 188 #[.int .i64 i] w fun e w'=>e=.returned (.bool (decide (0<=i) && decide (i<31))) /\ w=w':=by
 by_cases h:0<=i<;>(go_enter Tryz.func188,Tryz.ntmps188;go_wp2;go_ret;exact ⟨by congr 2;simp [h]<;>omega,rfl⟩)
theorem pq {a b:Bool} (h:a=b):Ending.returned (.bool a)=.returned (.bool b):=by rw [h]
theorem E9 (s i:Int) (w:World):Calls Tryz.prog 143 #[.int .i64 s,.int .i64 i] w fun e w'=>e=.returned (.bool (aW s i)) /\ w=w':=by
 by_cases h0:0<=i
 .by_cases h1:i<31
  .have e0:decide (0<=i)=true:=by simp;omega
   have e1:decide (i<31)=true:=by simp;omega
   go_enter Tryz.func143,Tryz.ntmps143
   go_wp2_with (go_at_call 188;refine (lq _ _).mono ?_;rintro e w' ⟨rfl,rfl⟩)
   go_ret
   exact ⟨pq (by unfold aW;rw [ub,e0,e1];rfl),rfl⟩
  .have e0:decide (0<=i)=true:=by simp;omega
   have e1:decide (i<31)=false:=by simp;omega
   go_enter Tryz.func143,Tryz.ntmps143
   go_wp2_with (go_at_call 188;refine (lq _ _).mono ?_;rintro e w' ⟨rfl,rfl⟩)
   go_ret
   exact ⟨pq (by unfold aW;rw [e0,e1];rfl),rfl⟩
 .have e0:decide (0<=i)=false:=by simp;omega
  go_enter Tryz.func143,Tryz.ntmps143
  go_wp2_with (go_at_call 188;refine (lq _ _).mono ?_;rintro e w' ⟨rfl,rfl⟩)
  go_ret
  exact ⟨pq (by unfold aW;rw [e0];rfl),rfl⟩
end
section
def kY (s:Int):Nat:=(s % 2147483648).toNat
theorem fu (s:Int):kY s<2 ^ 31:=by unfold kY;omega
theorem o7 (n:Nat) (h:n<2 ^ 31):kY (n:Int)=n:=by unfold kY;omega
def cQ (s i:Int):Int:=if 0<=i /\ i<31 then ((kY s ||| 2 ^ i.toNat:Nat):Int) else (kY s:Int)
def bN (s i:Int):Int:=if 0<=i /\ i<31 then ((kY s ^^^ (kY s &&& 2 ^ i.toNat):Nat):Int) else (kY s:Int)
theorem cJ (s:Int) (j:Nat) (hj:j<31):aW s (j:Int)=(kY s).testBit j:=by
 have h1:aW s (j:Int)=(s / 2 ^ j % 2 == 1):=by
  unfold aW;rw [show decide (0<=(j:Int))=true by simp,show decide ((j:Int)<31)=true by simp;omega];rfl
 rw [h1,Nat.testBit_eq_decide_div_mod_eq]
 have hs:s=2 ^ j * (2 ^ (30 - j) * 2 * (s / 2147483648))+s % 2147483648:=by
  have e:(2:Int) ^ j * (2 ^ (30 - j) * 2 * (s / 2147483648))=(2 ^ j * 2 ^ (30 - j) * 2) * (s / 2147483648):=by
   rw [<- Int.mul_assoc,<- Int.mul_assoc]
  rw [e,<- Int.pow_add,show j+(30 - j)=30 by omega];have:=Int.mul_ediv_add_emod s 2147483648;omega
 have h2:s / 2 ^ j % 2=((kY s / 2 ^ j % 2:Nat):Int):=by
  have hr:((kY s:Nat):Int)=s % 2147483648:=by unfold kY;omega
  rw [Int.natCast_emod,Int.natCast_ediv,hr];have hp:((2 ^ j:Nat):Int)=2 ^ j:=by simp
  rw [hp]
  conv=>lhs;rw [hs]
  rw [Int.add_comm,Int.add_mul_ediv_left _ _ (by have:(0:Int)<2 ^ j:=MS (by omega);omega)];rw [show (2:Int) ^ (30 - j) * 2 * (s / 2147483648)=2 * (2 ^ (30 - j) * (s / 2147483648)) by rw [Int.mul_comm ((2:Int) ^ (30 - j)) 2,Int.mul_assoc]];omega
 rw [h2];generalize kY s / 2 ^ j % 2=n;rw [MB];simp;omega
theorem iK (s j:Int) (hj:¬ (0<=j /\ j<31)):aW s j=false:=by
 unfold aW;by_cases h:0<=j
 .rw [show decide (j<31)=false by simp;omega];simp
 .rw [show decide (0<=j)=false by simp;omega];rfl
theorem rj (s i j:Int):aW (cQ s i) j=((decide (0<=i /\ i<31) && (j == i)) || aW s j):=by
 by_cases hj:0<=j /\ j<31
 .obtain ⟨n,rfl⟩:∃ n:Nat,j=(n:Int):=⟨j.toNat,by omega⟩;unfold cQ;by_cases hi:0<=i /\ i<31
  .obtain ⟨k,rfl⟩:∃ k:Nat,i=(k:Int):=⟨i.toNat,by omega⟩;have hl:kY s ||| 2 ^ k<2 ^ 31:=Nat.or_lt_two_pow (fu s) (Nat.pow_lt_pow_right (by omega) (by omega));rw [K5 hi,L9,cJ _ _ (by omega),o7 _ hl,Nat.testBit_or,cJ _ _ (by omega),Nat.testBit_two_pow,Bool.or_comm]
   congr 1
   rw [MB];simp;omega
  .rw [KY hi,cJ _ _ (by omega),o7 _ (fu s),cJ _ _ (by omega)];simp [hi]
 .rw [iK _ _ hj,iK _ _ hj,Bool.or_false];symm;rw [Lv];by_cases hi:0<=i /\ i<31
  .right;exact LJ.2 (by omega)
  .left;simpa using hi
theorem gu (s i j:Int):aW (bN s i) j=(!(j == i) && aW s j):=by
 by_cases hj:0<=j /\ j<31
 .obtain ⟨n,rfl⟩:∃ n:Nat,j=(n:Int):=⟨j.toNat,by omega⟩;unfold bN;by_cases hi:0<=i /\ i<31
  .obtain ⟨k,rfl⟩:∃ k:Nat,i=(k:Int):=⟨i.toNat,by omega⟩;have hl:kY s ^^^ (kY s &&& 2 ^ k)<2 ^ 31:=Nat.xor_lt_two_pow (fu s) (Nat.lt_of_le_of_lt Nat.and_le_left (fu s));rw [K5 hi,L9,cJ _ _ (by omega),o7 _ hl,Nat.testBit_xor,Nat.testBit_and,Nat.testBit_two_pow,cJ _ _ (by omega)];by_cases e:n=k
   .subst e;cases (kY s).testBit n<;>simp
   .rw [show ((n:Int) == (k:Int))=false from LJ.2 (by omega),show decide (k=n)=false by simp;omega];simp
  .rw [KY hi,cJ _ _ (by omega),o7 _ (fu s),cJ _ _ (by omega),show ((n:Int) == i)=false from LJ.2 (by omega)];rfl
 .rw [iK _ _ hj,iK _ _ hj,Bool.and_false]
theorem ia (a:Nat) (ha:a<2 ^ 64):(BitVec.ofInt 64 (a:Int)).toNat=a:=by
 rw [BitVec.ofInt_natCast,BitVec.toNat_ofNat];exact Nat.mod_eq_of_lt ha
theorem uO (n:Nat) (h:n<2 ^ 63):IntKind.i64.wrap (n:Int)=(n:Int):=by
 simp [IntKind.wrap,IntKind.bits,IntKind.signed];omega
end
section
abbrev jO (x:aJ):List AV:=[eI x.op,eI x.la,eI x.ln,eI x.ra,eI x.rn,eI x.n,eI x.u]
abbrev bw (l:List aJ):AV:=.sl 7 (l.map jO)
abbrev AG (g:Gd):List AV:=[eI g.stage,eI g.event,bw g.cond]
abbrev tj (g:Ml):List AV:=[eS g.name,eI g.stage,eI g.event,bw g.cond,eB g.final]
abbrev wY (g:Ev):List AV:=[eS g.name,eI g.role,eI g.stage,sI g.sets,eI g.times]
abbrev CK (p:ByteArray × Int):List AV:=[eS p.1,eI p.2]
abbrev Kl (p:Int × Int):List AV:=[eI p.1,eI p.2]
abbrev ta (p:Bool × Int):List AV:=[eB p.1,eI p.2]
abbrev aM (m:aR):List AV:=[.sl 1 (m.attrs.map fun s=>[eS s]),sI m.inits,.sl 1 (m.users.map fun s=>[eS s]),.sl 2 (m.roles.map CK),.sl 2 (m.stages.map CK),.sl 5 (m.events.map wY),.sl 3 (m.guards.map AG),.sl 5 (m.miles.map tj),.sl 2 (m.sods.map Kl),.sl 2 (m.order.map ta)]
abbrev i6 (s:St):List AV:=[sI s.vals,eI s.opn,eI s.don,sI s.did,sI s.cnt]
def fy (m:aR):List Int:=m.stages.map (·.2)
def xy (m:aR):Prop:=(∀ g ∈ m.guards,∀ x ∈ g.cond,x.ok) /\ ∀ g ∈ m.miles,∀ x ∈ g.cond,x.ok
theorem ah:Tryz.prog.follows .mixedOrders=true:=by kernel_rfl
def sf (m:aR):Prop:=m.guards.length<=14 /\ m.miles.length<=10 /\ m.stages.length<=10 /\ m.events.length<=10 /\ m.attrs.length<=10 /\ m.users.length<=10 /\ m.roles.length<=10 /\ m.sods.length<=10 /\ m.order.length<=40 /\ m.inits.length<=10
structure p9 (m:aR):Prop where
 sizes:sf m
 guards:∀ g ∈ m.guards,g.cond.length<=80
 miles:∀ g ∈ m.miles,g.cond.length<=80
 events:∀ g ∈ m.events,g.sets.length<=10
theorem z6 (m:aR):cT Tryz.prog 6 [.agg (aM m)] fun R=>∃ b,R=val (.bool b) /\ (b=false -> p9 m):=by
 refine ba ah Tryz.func6 rfl (by decide) Tryz.ntmps6 Tryz.results6 rfl ?_
 repeat' first|refine go ?_|decide|refine sp ?_ ?_<;>intro _
 all_goals first|with_reducible exact bZ ⟨true,rfl,fun h=>by cases h⟩|skip
 have hS:sf m:=by simp_all [sf];omega
 obtain ⟨h1,h2,h3,h4,h5,h6,h7,h8,h9,h10⟩:=id hS;refine af (fun st=>∃ k:Nat,k<=m.guards.length /\ (∀ i (h:i<m.guards.length),i<k -> m.guards[i].cond.length<=80) /\ st=⟨109,[(1,.op 0 0 0),(3,eI (k:Int))],[(0,some (.box 32 (aM m)))],1⟩) (fun st=>m.guards.length - ap st 3) ⟨_,wC,0,KR _,?_,rfl⟩ ?_
 .exact fun i h h2=>absurd h2 (by omega)
 rintro _ ⟨k,hk,hg,rfl⟩;by_cases hlt:k<m.guards.length
 .repeat' first|refine go ?_|simp only [ae,hlt]|decide|refine sp ?_ ?_<;>intro _
  .with_reducible exact bZ ⟨true,rfl,fun h=>by cases h⟩
  .rename_i hc;refine rI wC ⟨k+1,by omega,fun i h h2=>?_,rfl⟩;rcases Ld i k with h3|h3
   .exact hg i h h3
   .obtain rfl:i=k:=by omega
    simp at hc;omega
 repeat' first|decide|refine go ?_|simp only [ae,hlt]
 refine af (fun st=>∃ q:Nat,q<=m.miles.length /\ (∀ i (h:i<m.miles.length),i<q -> m.miles[i].cond.length<=80) /\ st=⟨109,[(1,.op 0 0 0),(4,eI (q:Int))],[(0,some (.box 32 (aM m)))],1⟩) (fun st=>m.miles.length - ap st 4) ⟨_,wC,0,KR _,?_,rfl⟩ ?_
 .exact fun i h h2=>absurd h2 (by omega)
 rintro _ ⟨q,hq,hm,rfl⟩;by_cases hlt2:q<m.miles.length
 .repeat' first|refine go ?_|simp only [ae,hlt2]|decide|refine sp ?_ ?_<;>intro _
  .with_reducible exact bZ ⟨true,rfl,fun h=>by cases h⟩
  .rename_i hc;refine rI wC ⟨q+1,by omega,fun i h h2=>?_,rfl⟩;rcases Ld i q with h3|h3
   .exact hm i h h3
   .obtain rfl:i=q:=by omega
    simp at hc;omega
 repeat' first|decide|refine go ?_|simp only [ae,hlt2]
 refine af (fun st=>∃ r:Nat,r<=m.events.length /\ (∀ i (h:i<m.events.length),i<r -> m.events[i].sets.length<=10) /\ st=⟨109,[(1,.op 0 0 0),(5,eI (r:Int))],[(0,some (.box 32 (aM m)))],1⟩) (fun st=>m.events.length - ap st 5) ⟨_,wC,0,KR _,?_,rfl⟩ ?_
 .exact fun i h h2=>absurd h2 (by omega)
 rintro _ ⟨r,hr,he,rfl⟩;by_cases hlt3:r<m.events.length
 .repeat' first|refine go ?_|simp only [ae,hlt3]|decide|refine sp ?_ ?_<;>intro _
  .with_reducible exact bZ ⟨true,rfl,fun h=>by cases h⟩
  .rename_i hc;refine rI wC ⟨r+1,by omega,fun i h h2=>?_,rfl⟩;rcases Ld i r with h3|h3
   .exact he i h h3
   .obtain rfl:i=r:=by omega
    simp at hc;omega
 repeat' first|decide|refine go ?_|simp only [ae,hlt3]
 refine bZ ⟨false,rfl,fun _=>⟨hS,fun g hg'=>?_,fun g hg'=>?_,fun g hg'=>?_⟩⟩
 .obtain ⟨i,hi,rfl⟩:=Le hg';exact hg i hi (by omega)
 .obtain ⟨i,hi,rfl⟩:=Le hg';exact hm i hi (by omega)
 .obtain ⟨i,hi,rfl⟩:=Le hg';exact he i hi (by omega)
def dg (n most:Int):Bool:=decide (0<=n) && decide (n<most)
theorem qf (n most:Int):aw Tryz.prog 71 [eI n,eI most] (val (.bool (dg n most))):=by
 refine ab ah Tryz.func71 rfl (by decide) Tryz.ntmps71 Tryz.results71 rfl (aU _) ?_
 repeat' first|decide|refine go ?_
 unfold dg
 with_reducible refine qr (fun h=>?_) (fun h=>?_)<;>simp -implicitDefEqProofs (maxSteps:=5000000) only [B9,↓reduceIte,reduceCtorEq,Nat.reduceLT,Nat.reduceEqDiff,Nat.reduceAdd,Nat.reduceMul,Nat.reduceSub,Nat.reduceLeDiff,Nat.reduceBEq]<;>simp at h<;>simp [h]<;>omega
theorem IC (m:aR) (l:List Int) (hl:l.length<=1000000) (b:Bool) (hb:b=true ↔ ∀ i (h:i<l.length),dg l[i] m.attrs.length=true /\ ∀ j (h:j<i),l[j] ≠ l[i]):aw Tryz.prog 72 [.agg (aM m),sI l] (val (.bool b)):=by
 refine ab ah Tryz.func72 rfl (by decide) Tryz.ntmps72 Tryz.results72 rfl (aU _) ?_
 repeat' first|decide|refine go ?_
 refine af (fun st=>∃ k:Nat,k<=l.length /\ (∀ i (h:i<l.length),i<k -> dg l[i] m.attrs.length=true /\ ∀ j (h:j<i),l[j] ≠ l[i]) /\ st=⟨36,[(1,sI l),(2,.op 0 0 0),(5,eI k)],[(0,some (.box 32 (aM m)))],1⟩) (fun st=>l.length - ap st 5)
  ⟨_,wC,0,KR _,fun i h1 h2=>absurd h2 (by omega),rfl⟩ ?_
 rintro _ ⟨k,hk,hI,rfl⟩;by_cases hlt:k<l.length
 .repeat' first|decide|refine go ?_|simp only [ae,hlt]
  refine aD (by kernel_rfl) ?_
  repeat' first|decide|refine go ?_|simp only [ae,hlt]
  refine aZ (qf _ _) ?_
  repeat' first|decide|refine go ?_|simp only [ae,hlt]
  with_reducible refine iW (fun hin=>?_) (fun hin=>?_)<;>simp -implicitDefEqProofs (maxSteps:=5000000) only [B9,↓reduceIte,reduceCtorEq,Nat.reduceLT,Nat.reduceEqDiff,Nat.reduceAdd,Nat.reduceMul,Nat.reduceSub,Nat.reduceLeDiff,Nat.reduceBEq,ae,hlt]
  .simp at hin;symm;rw [L4];intro hbt;have:=(hb.1 hbt k hlt).1;rw [hin] at this;cases this
  .simp at hin
   refine af (fun st=>∃ q:Nat,q<=k /\ (∀ j (h:j<k),j<q -> l[j] ≠ l[k]) /\ st=⟨36,[(1,sI l),(2,.op 0 0 0),(5,eI k),(6,eI q)],[(0,some (.box 32 (aM m)))],1⟩) (fun st=>k - ap st 6)
    ⟨_,wC,0,KR _,fun i h1 h2=>absurd h2 (by omega),rfl⟩ ?_
   rintro _ ⟨q,hq,hJ,rfl⟩;by_cases hqk:q<k
   .have hql:q<l.length:=by omega
    repeat' first|decide|refine go ?_|simp only [ae,hlt,hqk,hql]
    refine aD (by kernel_rfl) ?_
    repeat' first|decide|refine go ?_|simp only [ae,hlt,hqk,hql]
    with_reducible refine iW (fun he=>?_) (fun he=>?_)<;>simp -implicitDefEqProofs (maxSteps:=5000000) only [B9,↓reduceIte,reduceCtorEq,Nat.reduceLT,Nat.reduceEqDiff,Nat.reduceAdd,Nat.reduceMul,Nat.reduceSub,Nat.reduceLeDiff,Nat.reduceBEq,ae,hlt,hqk,hql]
    .symm;rw [L4];intro hbt;exact (hb.1 hbt k hlt).2 q hqk (by simpa using he)
    .refine fZ wC ⟨q+1,by omega,fun j h1 h2=>?_,rfl⟩ ?_
     .simp at he;rcases Ld j q with h3|h3
      .exact hJ j h1 h3
      .obtain rfl:j=q:=by omega
       exact he
     .exact (by simp only [ap,iu,ak.get,bl,ak.put,↓reduceIte,reduceCtorEq,Nat.reduceLT,Nat.reduceEqDiff,Nat.reduceAdd,Nat.reduceLeDiff,eq_self,implies_true];omega)
   .repeat' first|decide|refine go ?_|simp only [ae,hlt,hqk]
    refine fZ wC ⟨k+1,by omega,fun j h1 h2=>?_,rfl⟩ ?_
    .rcases Ld j k with h3 | h3
     .exact hI j h1 h3
     .obtain rfl:j=k:=by omega
      exact ⟨hin,fun i hi=>hJ i hi (by omega)⟩
    .exact (by simp only [ap,iu,ak.get,bl,ak.put,↓reduceIte,reduceCtorEq,Nat.reduceLT,Nat.reduceEqDiff,Nat.reduceAdd,Nat.reduceLeDiff,eq_self,implies_true];omega)
 .repeat' first|decide|refine go ?_|simp only [ae,hlt]
  symm;exact hb.2 fun i h=>hI i h (by omega)
theorem tZ (a b:List Int) (ha:a.length<=1000000):aw Tryz.prog 29 [sI a,sI b] (val (.bool (decide (a=b)))):=by
 refine ab ah Tryz.func29 rfl (by decide) Tryz.ntmps29 Tryz.results29 rfl (aU _) ?_
 repeat' first|decide|refine go ?_
 with_reducible refine iW (fun he=>?_) (fun he=>?_)<;>simp -implicitDefEqProofs (maxSteps:=5000000) only [B9,↓reduceIte,reduceCtorEq,Nat.reduceLT,Nat.reduceEqDiff,Nat.reduceAdd,Nat.reduceMul,Nat.reduceSub,Nat.reduceLeDiff,Nat.reduceBEq]
 .symm;rw [Lc];rintro rfl;simp at he
 have hl:a.length=b.length:=by simp at he;omega
 refine af (fun st=>∃ k:Nat,k<=a.length /\ (∀ i (h:i<a.length) (h2:i<b.length),i<k -> a[i]=b[i]) /\ st=⟨26,[(0,sI a),(1,sI b),(5,eI (k:Int))],[],0⟩) (fun st=>a.length - ap st 5) ⟨_,wC,0,KR _,?_,rfl⟩ ?_
 .exact fun i h h2 h3=>absurd h3 (by omega)
 rintro _ ⟨k,hk,hI,rfl⟩;by_cases hlt:k<a.length
 .have hlt2:k<b.length:=by omega
  repeat' first|decide|refine go ?_|simp only [ae,hlt,hlt2]
  refine aD (by kernel_rfl) ?_
  repeat' first|decide|refine go ?_|simp only [ae,hlt,hlt2]
  with_reducible refine iW (fun hn=>?_) (fun hn=>?_)<;>simp -implicitDefEqProofs (maxSteps:=5000000) only [B9,↓reduceIte,reduceCtorEq,Nat.reduceLT,Nat.reduceEqDiff,Nat.reduceAdd,Nat.reduceMul,Nat.reduceSub,Nat.reduceLeDiff,Nat.reduceBEq,ae,hlt,hlt2]
  .symm;rw [Lc];rintro rfl;simp at hn
  .refine rI wC ⟨k+1,by omega,fun i h h2 h3=>?_,rfl⟩;rcases Ld i k with h4|h4
   .exact hI i h h2 h4
   .obtain rfl:i=k:=by omega
    simpa using hn
 .repeat' first|decide|refine go ?_|simp only [ae,hlt]
  symm;rw [decide_eq_true_iff];exact List.ext_getElem hl fun i h1 h2=>hI i h1 h2 (by omega)
end
section
open Go.RowKit Go.Shelf
theorem Dr {c:Cx} {w:World} {tab tab':aa} {L:Nat -> Value} (h:∀ k,tab.get k=tab'.get k):Sx c w tab L=Sx c w tab' L:=by
 funext b
 unfold Sx;simp only [h]
theorem AC {tab tab':aa} {L:Nat -> Value} (h:∀ k,tab.get k=tab'.get k):Kx tab L=Kx tab' L:=by
 funext k
 unfold Kx;rw [h]
theorem tP {c:Cx} {w:World} {tab tab':aa} {L:Nat -> Value} (h:∀ k,tab.get k=tab'.get k) (v:Value) (o:ar):fa c w tab L v o=fa c w tab' L v o:=by
 cases o<;>simp only [fa,bx,Dr h,AC h]
theorem zy {c:Cx} {w:World} {tab tab':aa} {L:Nat -> Value} (h:∀ k,tab.get k=tab'.get k) (hl:fY c w tab L):fY c w tab' L:=
 ⟨hl.below,fun id o ho=>by rw [<- tP h];exact hl.objs id o (by rw [h];exact ho),fun id id' o o' g h1 h2=>hl.sep id id' o o' g (by rw [h];exact h1) (by rw [h];exact h2),fun b hb=>⟨(hl.ex b hb).1,fun id o ho=>(hl.ex b hb).2 id o (by rw [h];exact ho)⟩⟩
theorem Ex {w:World} {tab:aa} {L:Nat -> Value}:Fz w tab L w tab L:=⟨KW _,fun _ _ _=>rfl,fun id o g h1 h2 _=>⟨id,o,h1,h2⟩⟩
def PA (p:AV):Prop:=p=.c (.pointer none) \/ p=.op 0 0 0
theorem PA.lt {p:AV} (h:PA p) (n:Nat):p.lt (n+1):=by
 rcases h with rfl|rfl
 .trivial
 .show 0<n+1;omega
theorem uY (p:AV) (hp:PA p) (rest:List AV) (objs:List ar) (hr:rest.length=12) (hlt:AV.ltL (objs.length+1) rest) (hpl:∀ o ∈ objs,aF o) :
  jL Tryz.prog 142 135 (p :: rest) objs [.op 0 0 0] fun av cells' objs'=>av=.tup [] /\ cells'=.op 0 0 0 :: rest /\ objs'=objs:=by
 have hltc:AV.ltL (objs.length+1) (p :: rest):=⟨hp.lt _,hlt⟩;have hltc':AV.ltL (objs.length+1) (.op 0 0 0 :: rest):=⟨(PA.lt (.inr rfl) _),hlt⟩;refine ⟨dQ Tryz.func142 rfl (by decide),hltc,fun cx w L vs hlay hvn hv=>?_⟩;obtain ⟨x,rfl⟩:∃ x,vs = #[x]:=⟨vs[0]'(by simp at hvn;omega),by apply MP (by simpa using hvn);intro i h1 h2;simp at h2;subst h2;rfl⟩;have hget0:(aE 0 (ar.box 135 (p :: rest) :: objs)).get 0=some (.box 135 (p :: rest)):=by rw [bV];rfl
 obtain ⟨g,cs,hL,hbg,hheap,hcs,hx⟩:=hlay.objs 0 _ hget0;obtain ⟨g',hg',rfl⟩:=(hv 0 x _ rfl rfl).op_inv _ _ (bI hget0);have egg:g'=g:=by rw [hL] at hg';cases hg';rfl
 subst egg;simp only [Mu,L8];have hcs13:cs.size=13:=by rw [hcs,KU,hr]
 have hc0:cs[0]? = some (cs[0]'(by omega)):=KT _;have hx0:=hx 0 _ p hc0 rfl
 have hgl:g'<w.heap.size:=by
  rcases Ld g' w.heap.size with h'|h'
  .exact h'
  .simp [Array.getElem?_eq_none h'] at hheap
 have hself:∀ {w':World} {tab':aa},tab'.get 0=some (.box 135 (.op 0 0 0 :: rest)) -> bx cx w' tab' L (.pointer (some ⟨g',0,none⟩)) (.op 0 0 0):=fun ht=>.op _ 0 0 0 fun sz v hk=>by
  rw [bI ht] at hk;cases hk;exact ⟨g',by rw [hL];rfl,by simp⟩
 have hRT:∀ {w':World} {S:Nat -> Prop},RT w' S (.tuple #[]) (.tup []):=.tup #[] [] rfl fun j x av h1 _=>by simp at h1
 rcases hp with rfl|rfl
 .have e0:=hx0.1.c_inv;have h0:w.cell? ⟨g',0,none⟩=some (.pointer none):=by rw [Lib.cell_of_heap hheap,hc0,e0]
  have hsh:w.shape? g'=some (135,13):=by simp [World.shape?,hheap,hcs13]
  refine (tN g' w h0 hsh (Lib.frozen_of_heap hheap 0)).mono ?_;rintro e w' ⟨rfl,rfl⟩;obtain ⟨self,hse⟩:∃ s:Value,s=.pointer (some ⟨g',0,none⟩):=⟨_,rfl⟩;rw [<- hse] at hself ⊢
  have hh:(w.setCell ⟨g',0,none⟩ self).heap[g']? = some (.cells (cs.set 0 self (by omega)) 135 (0,0)):=by
   simp [World.setCell,Array.getElem?_modify,hheap];unfold Array.setIfInBounds;rw [dif_pos (by omega)]
  have hk:∀ k,k ≠ g' -> (w.setCell ⟨g',0,none⟩ self).heap[k]? = w.heap[k]?:=fun k hk=>Below.heap_setCell _ _ _ _ hk;have hC:=yR (args:=[.op 0 0 0]) hltc ⟨(PA.lt (.inr rfl) _),trivial⟩ hpl hlay hvn hv
  have hC2:=kd (w':=w.setCell ⟨g',0,none⟩ self) (o':=.box 135 (.op 0 0 0 :: rest)) (id:=0) (g:=g') hC hget0 (by rw [hL];rfl) rfl hk
   ⟨hlay.below.os,hlay.below.tape,hlay.below.output,by simpa [World.setCell] using hlay.below.size,fun k h1 h2=>(hk k (by omega)).trans (hlay.below.block k h1 h2)⟩ (by simp [World.setCell])
   (fun hext=>⟨g',_,hL,hbg,hh,by simp [hcs13,hr],fun j y av h2 h3=>?_⟩) hltc' none
  .have hlay2:fY cx (w.setCell ⟨g',0,none⟩ self) (aE 0 (.box 135 (.op 0 0 0 :: rest) :: objs)) L:=by
    refine zy (fun k=>?_) hC2.lay;rw [bA,aa.gc,bV,bV]
    cases k with
    | zero=>simp
    | succ k=>simp
   refine ⟨_,_,_,_,L,rfl,⟨rfl,rfl,rfl⟩,hlay2,hRT,rfl,by simp,hltc',hpl,⟨by simp [World.setCell],fun k h1 h2=>hk k fun e=>h2 0 _ hget0 (by rw [hL,e];rfl),fun id o gg h1 h2 h3=>?_⟩⟩
   cases id with
   | zero=>exact ⟨0,_,hget0,h2⟩
   | succ id=>
    refine ⟨id+1,o,?_,h2⟩;rw [bV] at h1 ⊢;simpa using h1
  .cases j with
   | zero=>
    simp at h2 h3;subst h2;subst h3;exact ⟨hself (by rw [aa.gc];rfl),by rw [hse];rfl⟩
   | succ j=>
    have h4:cs[j+1]? = some y:=by
     rw [Array.getElem?_set] at h2;simpa using h2
    have:=hx (j+1) y av h4 (by simpa using h3);exact ⟨hext.rv this.1 (ag.1 hlt _ (KO (by simpa using h3))),this.2⟩
 .obtain ⟨g2,hg2,e0⟩:=hx0.1.op_inv _ _ (bI hget0);have egg:g2=g':=by rw [hL] at hg2;cases hg2;rfl
  subst egg;simp only [Mu,L8] at e0;have h0:w.cell? ⟨g2,0,none⟩=some (.pointer (some ⟨g2,0,none⟩)):=by rw [Lib.cell_of_heap hheap,hc0,e0]
  refine (Any.Builder_copyCheck_used { Tryz.lays156 with } Tryz.Builder_Extra_156.toX72 g2 w h0).mono ?_;rintro e w' ⟨rfl,rfl⟩;exact ⟨_,_,_,_,L,rfl,⟨rfl,rfl,rfl⟩,hlay,hRT,rfl,rfl,hltc,hpl,Ex⟩
def vQ (P:Program) (rs:List ResultVar) (t:TypeId) (n r:Nat) (av0:AV) (Post:List AV -> List ar -> Prop):Exit -> ak -> Prop
 | .normal,st=>cy P st rs fun avs=>∃ cells' objs',Post cells' objs' /\ (cells'.length=n /\ AV.ltL (objs'.length+1) cells' /\ ∀ o ∈ objs',aF o) /\ dq st ⟨st.n,[(r,av0)],aE 0 (.box t cells' :: objs'),objs'.length+1⟩
 | .ret,st=>cy P st rs fun avs=>∃ cells' objs',Post cells' objs' /\ (cells'.length=n /\ AV.ltL (objs'.length+1) cells' /\ ∀ o ∈ objs',aF o) /\ dq st ⟨st.n,[(r,av0)],aE 0 (.box t cells' :: objs'),objs'.length+1⟩
 | _,_=>False
section
variable {P:Program} {rs:List ResultVar} {t:TypeId} {n r:Nat} {av0:AV} {Post:List AV -> List ar -> Prop} {st:ak}
theorem eh:vQ P rs t n r av0 Post .normal st=cy P st rs fun avs=>∃ cells' objs',Post cells' objs' /\ (cells'.length=n /\ AV.ltL (objs'.length+1) cells' /\ ∀ o ∈ objs',aF o) /\ dq st ⟨st.n,[(r,av0)],aE 0 (.box t cells' :: objs'),objs'.length+1⟩:=rfl
theorem d9:vQ P rs t n r av0 Post .ret st=cy P st rs fun avs=>∃ cells' objs',Post cells' objs' /\ (cells'.length=n /\ AV.ltL (objs'.length+1) cells' /\ ∀ o ∈ objs',aF o) /\ dq st ⟨st.n,[(r,av0)],aE 0 (.box t cells' :: objs'),objs'.length+1⟩:=rfl
end
theorem cM {P : Program} (hm : P.follows .mixedOrders = true) {f : FuncId} {fn : Func} {c : Code} (hf : P.funcs[f]? = some fn) (hb : fn.body = some c) (hname : (fn.name == "runtime.NumGoroutine") = false) {n : Nat} (hnt : fn.ntmps = n) {rs : List ResultVar} (hrs : fn.results = rs.toArray)
  {t:TypeId} {cells:List AV} {objs:List ar} {args:List AV} {Post:List AV -> List ar -> Prop} (r:Nat) (av0:AV) (hr:args[r]? = some av0) (hpin:J6 av0) (hundef:∀ {cx:Cx} {w:World} {tab:aa} {L:Nat -> Value} {o:ar},tab.get 0=some o -> bx cx w tab L undef av0 -> False) (hn:Nat.ble args.length n=true) (hz:gh r c=true) (hlt:AV.ltL (objs.length+1) cells) (hla:AV.ltL (objs.length+1) args) (hpl:∀ o ∈ objs,aF o)
  (h:bC P c (vQ P rs t cells.length r av0 Post) ⟨n,da 0 args,aE 0 (.box t cells :: objs),objs.length+1⟩):jL P f t cells objs args fun _ cells' objs'=>Post cells' objs':=by
 have hn:=MI hn;subst hnt;refine ⟨fun vs w=>?_,hlt,fun cx w L vs hlay hvn hv=>?_⟩
 ·have : ¬ fn.name = "runtime.NumGoroutine" := by simpa using hname
  simp [callFunc,Sem.run_bind,hf,this,hb]
 obtain ⟨tab0,ht0⟩:∃ tab0,tab0=aE 0 (ar.box t cells :: objs):=⟨_,rfl⟩;rw [<- ht0] at hlay hv h ⊢;have hget0:tab0.get 0=some (.box t cells):=by rw [ht0,bV];rfl
 obtain ⟨g,cs,hLb,_,hheap,_⟩:=hlay.objs 0 _ hget0
 have hC:aI cx { tmps:=vs ++ Array.replicate (fn.ntmps - vs.size) undef,defers:=[] } w ⟨fn.ntmps,da 0 args,tab0,objs.length+1⟩ L:=by
  refine ⟨hlay,?_,iV.nil _ _ _,fun id o ho=>?_,fun k=>?_⟩
  .simp;omega
  .rw [ht0,bV] at ho;simp only [KR,if_true,Nat.sub_zero] at ho;have hlen:=(KS.1 ho).1;refine ⟨by simpa using hlen,?_⟩
   cases id with
   | zero=>
    simp at ho;subst ho;exact hlt
   | succ id=>exact ko (hpl o (KO (by simpa using ho))) _
  have e:(⟨fn.ntmps,da 0 args,tab0,objs.length+1⟩:ak).get k=args.getD k .any:=by
   show (if k<fn.ntmps then bl (da 0 args) k else .any)=_;rw [gL];split
   .simp
   .simp [List.getD,Lh (show args.length<=k by omega)]
  rw [e];by_cases hlt':k<args.length
  .have ht':k<vs.size:=by omega
   have e2:(vs ++ Array.replicate (fn.ntmps - vs.size) undef).getD k undef=vs[k]:=by
    rw [LA,LY ht',KT ht'];rfl
   rw [e2];have e4:args.getD k .any=args[k]:=(by simp [List.getD,hlt']);rw [e4];exact ⟨hv k _ _ (KT ht') (KN hlt'),ag.1 hla _ (KQ hlt')⟩
  .have e3:args.getD k .any=.any:=(by simp [List.getD,Lh (Nat.le_of_not_lt hlt')]);rw [e3];exact ⟨.tree (.any _),trivial⟩
 have hrl:r<args.length:=(KS.1 hr).1;have hrv:r<vs.size:=by omega
 have hx0:vs[r]? = some vs[r]:=KT hrv;refine calls_of_wp hf hb (Code.wp_mono (fun ex a' w' ⟨st',L',h1,h2,h3,hA⟩=>?_) (uw hm r c hz _ _ w _ _ hC h))
 have h50:a'.tmps.getD r undef=vs[r]:=by
  rw [hA.slots r rfl,LA,LY hrv,hx0];rfl
 have key:(cy P st' rs fun avs=>∃ cells' objs',Post cells' objs' /\ (cells'.length=cells.length /\ AV.ltL (objs'.length+1) cells' /\ ∀ o ∈ objs',aF o) /\ dq st' ⟨st'.n,[(r,av0)],aE 0 (.box t cells' :: objs'),objs'.length+1⟩) ->
   a'.defers=[] /\ ∃ u,(results fn a'.tmps).run P w'=.ok u w' /\ ∃ v av cells' objs' L',Ending.returned u=.returned v /\ Post cells' objs' /\ fY cx w' (aE 0 (.box t cells' :: objs')) L' /\ RT w' (Sx cx w' (aE 0 (.box t cells' :: objs')) L') v av /\ L' 0=L 0 /\ cells'.length=cells.length /\
   AV.ltL (objs'.length+1) cells' /\ (∀ o ∈ objs',aF o) /\ Fz w tab0 L w' (aE 0 (.box t cells' :: objs')) L':=fun h1=>by
  obtain ⟨u,av,⟨cells',objs',hPost,⟨hl1,hl2,hl3⟩,hw⟩,hrv2,hrun⟩:=vK (K:=fun av=>∃ cells' objs',Post cells' objs' /\ (cells'.length=cells.length /\ AV.ltL (objs'.length+1) cells' /\ ∀ o ∈ objs',aF o) /\ dq st' ⟨st'.n,[(r,av0)],aE 0 (.box t cells' :: objs'),objs'.length+1⟩) (fn:=fn) h2 (by rw [hrs];exact h1);obtain ⟨L2,hC2,hS2⟩:=hw _ _ _ _ h2;refine ⟨hA.defers,u,hrun,u,.any,cells',objs',L2,rfl,hPost,hC2.lay,(.any _),?_,hl1,hl2,hl3,h3.trans (F6 hC2 hS2)⟩;have hget2:(aE 0 (ar.box t cells' :: objs')).get 0=some (.box t cells'):=by rw [bV];rfl
  obtain ⟨g2,cs2,hL2,_⟩:=hC2.lay.objs 0 _ hget2;have hrr:=(hC2.env r).1
  have e5:(⟨st'.n,[(r,av0)],aE 0 (.box t cells' :: objs'),objs'.length+1⟩:ak).get r=av0:=by
   have:r<st'.n:=by
    have h6:=h2.size;have h7:=hA.slots r rfl;refine Classical.byContradiction fun h8=>?_;have h9:a'.tmps.getD r undef=undef:=(by simp [Array.getD,show ¬ r<a'.tmps.size by omega]);have h10:=hv r _ _ hx0 hr;rw [h50] at h9;exact hundef hget0 (by rw [<- h9];exact h10)
   simp [ak.get,bl,this]
  rw [e5,h50] at hrr;have hb2:=hpin _ _ _ _ _ _ _ _ _ _ _ (hv r _ _ hx0 hr) hrr (bI hget0) (bI hget2);rw [hLb,hL2] at hb2 ⊢;cases hb2;rfl
 cases ex with
 | normal=>exact key h1
 | ret=>exact key h1
 | _=>exact h1.elim
abbrev qo (p:AV) (rest:List AV):List AV:=p :: .osl 1 :: rest
abbrev aO (B:List UInt8):ar:=.row 5 1 (B.map fun b=>[.c (.int .u8 b.toNat)])
theorem zv (B:List UInt8) (s:ByteArray):(B.map fun b:UInt8=>[AV.c (.int .u8 b.toNat)]) ++ ib s=(B ++ s.data.toList).map fun b=>[AV.c (.int .u8 b.toNat)]:=by
 rw [Lr];rfl
theorem qg (p:AV) (hp:PA p) (rest:List AV) (hr:rest.length=11) (hlt:AV.ltL 2 rest) (hren:∀ l,AV.renL l rest=rest) (B:List UInt8) (s:ByteArray) (hB:B.length+s.size<=140737488355328) :
  jL Tryz.prog 105 135 (qo p rest) [aO B] [.op 0 0 0,.c (.string s)] fun _ cells' objs'=>cells'=qo (.op 0 0 0) rest /\ objs'=[aO (B ++ s.data.toList)]:=by
 have hC:=uY p hp (.osl 1 :: rest) [aO B] (by simp [hr]) ⟨by show 1<2;omega,hlt⟩ (by simp [aF]);refine cM (Post:=fun cells' objs'=>cells'=qo (.op 0 0 0) rest /\ objs'=[aO (B ++ s.data.toList)]) ah Tryz.func105 rfl (by decide) Tryz.ntmps105 Tryz.results105 0 (.op 0 0 0) rfl (lD 0 0) ?_ rfl (by kernel_rfl) ⟨hp.lt _,by show 1<2;omega,hlt⟩ (by simp [AV.ltL,AV.lt]) (by simp [aF]) ?_
 .intro cx w tab L o ho h;obtain ⟨_,_,e⟩:=h.op_inv _ _ (bI ho);cases e
 have hT:vT Tryz.prog 131 9=some 5:=by kernel_rfl
 have e1:∀ st x y dst K,jn Tryz.prog 131 9 st x y dst K=ku Tryz.prog 131 9 st x y dst K:=fun _ _ _ _ _=>rfl
 have e2:∀ st x dst K,ku Tryz.prog 131 9 st x (.c (.string s)) dst K=match mE st.tab 5 1 x with
  | some (oid,rows)=>rows.length+s.size<=140737488355328 /\ K ({ st with tab:=bq st.tab st.next oid (.row 5 1 (rows ++ ib s)),next:=st.next+1 }.put dst (.osl st.next))
  | none=>False:=fun st x dst K=>by
  unfold ku;rw [hT];rfl
 rcases hp with rfl|rfl
 all_goals
  repeat' first|refine go ?_|simp only [aE]|decide|refine sp ?_ ?_<;>intro _
  refine j9 (b:=0) [1] hC (by simp [AV.renL,AV.ren]) (by simp [aa.gc,AV.renL,AV.ren,hren]) ⟨⟨by simp [aa.gc],by simp [aF]⟩,trivial⟩ (by decide) (fun p hp=>by cases hp) (fun av cells' objs' he=>?_);obtain ⟨rfl,rfl,rfl⟩:=he;simp only [fv,KU,K3,AV.renL,AV.ren,hren,aE,Mc,Lq,List.range',Md,LT,Nat.reduceAdd,MD,MN,L8]
  repeat' first|refine ge (kf e1 (kf e2 (kf @zv (kf @eh @d9)))) ?_|decide|refine sp ?_ ?_<;>intro _
  have hl2:AV.ltL 2 rest=True:=eq_true hlt;exact ⟨hB,qo (.op 0 0 0) rest,[aO (B ++ s.data.toList)],⟨rfl,rfl⟩,⟨by simp,⟨by show 0<2;omega,by show 1<2;omega,hlt⟩,by simp [aF]⟩,(wS [0,3] (kf @aE.eq_1 (kf @aE.eq_2 (kf @hren hl2))))⟩
end
end
end Go.Proofs.YtiaiihjmmfakdaaGreatDoor
