/-
  Parts of the proof: Qtp5, Qtp6.
-/
import Derived.Test.YtiaiihjmmfakdaaGreatDoorQtq3
import Derived.RangeFuncLeaves
import Derived.RangeFuncRecord
import Derived.Test.YtiaiihjmmfakdaaGreatDoorProg
import Derived.Laws.StructEq
import Derived.WalkKit
import Derived.WalkLawsBesides
import Derived.ProofKit
import Derived.OpenShut
import Derived.Deep.Slices
import Derived.Test.YtiaiihjmmfakdaaGreatDoorRows
import Derived.SizedLaws
import Derived.WalkSpells
import Derived.ScopeJumps
import Derived.WalkMore
import Derived.Handy
import Derived.Deep.DeepCutAuto
import Derived.Deep.CutBlock
import Derived.BigQuiet
import Derived.Deep.QuietTactic
import Derived.Lib.ItoaNum
import Derived.Lib.Join
import Derived.TacticsIn
import Derived.RangeFuncIn
import Derived.RangeFuncCalls
set_option linter.unusedVariables false
set_option linter.unusedSimpArgs false
set_option linter.defProp false
set_option maxRecDepth 100000
set_option maxHeartbeats 16000000
namespace Go.Proofs.YtiaiihjmmfakdaaGreatDoor
open Go.RowKit
section
section
def cb (st:aj) (ren:List Nat):af -> Prop
 | []=>True
 | (k,o) :: T=>(k<ren.length /\ (∃ e sz rows,o=some (.row e sz rows)) /\ st.tab.get (ren.getD k 0)=o) /\ cb st ren T
def dw (R:cG) (st:aj) (av:AV):Prop:=∃ ren:List Nat,ren.Nodup /\ R.r.ren ren=av /\ cb st ren R.tab
def da (P:Program) (st:aj):List ResultVar -> (List AV -> Prop) -> Prop
 | [],K=>K []
 | .tmp t :: l,K=>da P st l fun avs=>K (st.get t :: avs)
 | .cell p ty :: l,K=>ji P ty st.tab (st.get p) fun av=>da P st l fun avs=>K (av :: avs)
def jj:List AV -> AV
 | [x]=>x
 | l=>.tup l
def Ab (P:Program) (rs:List ResultVar) (Post:cG -> Prop):Exit -> aj -> Prop
 | .normal,st=>da P st rs fun avs=>∃ R,Post R /\ R.Ok /\ dw R st (jj avs)
 | .ret,st=>da P st rs fun avs=>∃ R,Post R /\ R.Ok /\ dw R st (jj avs)
 | _,_=>False
def Dq (P:Program) (rs:List ResultVar) (R:cG):Exit -> aj -> Prop
 | .normal,st=>da P st rs fun avs=>dw R st (jj avs)
 | .ret,st=>da P st rs fun avs=>dw R st (jj avs)
 | _,_=>False
theorem LK {P:Program} {rs:List ResultVar} {R:cG} {st:aj}:Dq P rs R .ret st=da P st rs fun avs=>dw R st (jj avs):=rfl
theorem GV {P:Program} {rs:List ResultVar} {Post:cG -> Prop} {st:aj}:Ab P rs Post .ret st=da P st rs fun avs=>∃ R,Post R /\ R.Ok /\ dw R st (jj avs):=rfl
def fl:Nat -> List AV -> List (Nat × AV)
 | _,[]=>[]
 | k,a :: l=>(k,a) :: fl (k+1) l
theorem lS:∀ (l:List AV) (k t:Nat),aX (fl k l) t=if k<=t then l.getD (t - k) .any else .any
 | [],k,t=>by simp [fl,aX]
 | a :: l,k,t=>by
  simp only [fl,aX];rw [lS l (k+1) t];by_cases h:t=k
  .subst h;simp
  .rw [Ny h];by_cases h2:k<=t
   .rw [ND (by omega),ND h2,show t - k=(t - (k+1))+1 by omega];simp
   .rw [Ny (by omega),Ny h2]
section
variable {P:Program} {cx:Cx} {a:Act} {w w':World} {tab:af} {st:aj} {L:Nat -> Value} {nx:Nat}
theorem u9 {ren:List Nat}:∀ {T:af} {k:Nat} {o:aE},cb st ren T -> T.get k=some o -> k<ren.length /\ (∃ e sz rows,o=.row e sz rows) /\ st.tab.get (ren.getD k 0)=some o
 | [],k,o,_,h=>by cases h
 | (j,oo) :: T,k,o,hp,h=>by
  rw [af.gc] at h;split at h
  .rename_i e;subst e;subst h;obtain ⟨h1,⟨e,sz,rows,h2⟩,h3⟩:=hp.1;cases h2;exact ⟨h1,⟨e,sz,rows,rfl⟩,h3⟩
  .exact u9 hp.2 h
theorem kl {t:TypeId} {v u:Value} (h:(Instr.loadAt t v).run P w=.ok u w):(do loadVar t (<- asAddr v):Sem Value).run P w=.ok u w:=by
 cases v with
 | pointer p=>
  cases p with
  | none=>simp [Instr.loadAt,Instr.sureAddr,Sem.run_bind] at h
  | some ad=>simpa [Instr.loadAt,Instr.sureAddr,asAddr,Sem.run_bind] using h
 | _=>simp [Instr.loadAt,Instr.sureAddr,Sem.run_bind] at h
def lP (tmps:Array Value):ResultVar -> Sem Value
 | .tmp t=>pure (tmps.getD t undef)
 | .cell p t=>do loadVar t (<- asAddr (tmps.getD p undef))
theorem qF (fn:Func) (tmps:Array Value):results fn tmps=(do
  let vs <- fn.results.mapM (lP tmps)
  pure (if h:vs.size=1 then vs[0] else .tuple vs)):=by
 unfold results
 congr 1
theorem tQ (h:aG cx a w st L):∀ (l:List ResultVar) (K:List AV -> Prop),da P st l K ->
  ∃ vs avs,K avs /\ vs.length=avs.length /\ (∀ (j:Nat) (v:Value) (av:AV),vs[j]? = some v -> avs[j]? = some av -> bx cx w st.tab L v av) /\
   (l.mapM (lP a.tmps):Sem (List Value)).run P w=.ok vs w
 | [],K,hp=>⟨[],[],hp,rfl,by simp,by simp⟩
 | .tmp t :: l,K,hp=>by
  obtain ⟨vs,avs,h1,h2,h3,h4⟩:=tQ h l _ hp;refine ⟨a.tmps.getD t undef :: vs,st.get t :: avs,h1,by simp [h2],fun j v av h5 h6=>?_,?_⟩
  .cases j with
   | zero=>
    cases h5;cases h6;exact (h.env t).1
   | succ j=>exact h3 j v av (by simpa using h5) (by simpa using h6)
  .simp only [List.mapM_cons,lP,Sem.run_bind,Sem.run_pure,Result.andThen_ok,h4]
 | .cell p ty :: l,K,hp=>by
  obtain ⟨u,au,h1,h2,h3,h4⟩:=(tx (nx:=st.next) h.lay (fun id o hid=>(h.young id o hid).2) (h.env p).1 hp).one;obtain ⟨vs,avs,h5,h6,h7,h8⟩:=tQ h l _ h1;refine ⟨u :: vs,au :: avs,h5,by simp [h6],fun j v av h9 h10=>?_,?_⟩
  .cases j with
   | zero=>
    cases h9;cases h10;exact h2
   | succ j=>exact h7 j v av (by simpa using h9) (by simpa using h10)
  .have:=kl (h4 w (Below.refl _ _));simp only [List.mapM_cons,lP];rw [Sem.run_bind,this];simp only [Sem.run_bind,Sem.run_pure,Result.andThen_ok,h8]
theorem JF {fn:Func} {K:AV -> Prop} (h:aG cx a w st L) (hp:da P st fn.results.toList fun avs=>K (jj avs)):∃ v av,K av /\ bx cx w st.tab L v av /\ (results fn a.tmps).run P w=.ok v w:=by
 obtain ⟨vs,avs,h1,h2,h3,h4⟩:=tQ h _ _ hp
 have hm:(results fn a.tmps).run P w=.ok (if h:vs.toArray.size=1 then vs.toArray[0] else .tuple vs.toArray) w:=by
  rw [qF,Sem.run_bind,Array.mapM_eq_mapM_toList];simp only [bind_pure_comp,Sem.run_map,h4];rfl
 refine ⟨_,jj avs,h1,?_,hm⟩;clear hm h4 h1
 match vs,avs,h2,h3 with
 | [v],[av],_,h3=>exact h3 0 v av rfl rfl
 | [],[],_,h3=>exact .tup _ _ rfl (by simp)
 | v :: v' :: vs,av :: av' :: avs,h2,h3=>
  simp only [jj,PH,NZ];rw [dif_neg (by omega)];exact .tup _ _ (by simpa using h2) fun j x av h4 h5=>h3 j x av (by simpa using h4) h5
end
structure iT (base:Nat) (w w':World):Prop where
 below:Below base w w'
 size:w'.heap.size=w.heap.size
 cell:∀ p,w'.cell? p=w.cell? p
 cells:∀ (k:Nat) cs t x,w.heap[k]? = some (Obj.cells cs t x) -> w'.heap[k]? = some (Obj.cells cs t x)
 maps:∀ (k:Nat) es c,w.heap[k]? = some (Obj.map es c) -> w'.heap[k]? = some (Obj.map es c)
theorem iT.refl (base:Nat) (w:World):iT base w w:=⟨Below.refl _ _,rfl,fun _=>rfl,fun _ _ _ _ h=>h,fun _ _ _ h=>h⟩
theorem iT.trans {base:Nat} {w w' w'':World} (h:iT base w w') (k:iT base w' w''):iT base w w'':=
 ⟨h.below.trans k.below,k.size.trans h.size,fun p=>(k.cell p).trans (h.cell p),fun b cs t x hb=>k.cells b cs t x (h.cells b cs t x hb),fun b es c hb=>k.maps b es c (h.maps b es c hb)⟩
theorem iT.put {base k:Nat} {w:World} {o:Option (List Deferred)} (hk:base<=k) (h:w.heap[k]? = some (.deferred o)) (o':Option (List Deferred)):iT base w (w.putObj k (.deferred o')):=by
 have hother:∀ j,j ≠ k -> (w.putObj k (.deferred o')).heap[j]? = w.heap[j]?:=fun j hj=>World.putObj_heap_other hj;have hlt:k<w.heap.size:=(N8.1 h).1;refine ⟨⟨rfl,rfl,rfl,by simp,fun j hj=>hother j (by omega)⟩,by simp,fun p=>?_,fun j cs t x hj=>?_,fun j es c hj=>?_⟩
 .by_cases e:p.block=k
  .have h1:(w.putObj k (.deferred o')).heap[p.block]? = some (.deferred o'):=by rw [e];exact World.putObj_heap_same hlt
   have h2:w.heap[p.block]? = some (.deferred o):=by rw [e];exact h
   unfold World.cell?;rw [h1,h2]
  .exact World.cell?_of_block (hother p.block e)
 .by_cases e:j=k
  .rw [e,h] at hj;cases hj
  .rw [hother j e];exact hj
 .by_cases e:j=k
  .rw [e,h] at hj;cases hj
  .rw [hother j e];exact hj
section
variable {cx:Cx} {a:Act} {w w':World} {st:aj} {L:Nat -> Value}
theorem Aw (h:aG cx a w st L) (hk:iT cx.w0.heap.size w w') {ds:List Deferred} (hm:kB cx.w0.heap.size w' (Sx cx w' st.tab L) ds):aG cx { a with defers:=ds } w' st L:=by
 have hS:∀ b,Sx cx w st.tab L b -> Sx cx w' st.tab L b:=fun b hb=>⟨by rw [hk.size];exact hb.1,hb.2.1,hb.2.2⟩;have hrv:∀ {x av nx},bx cx w st.tab L x av -> av.lt nx -> bx cx w' st.tab L x av:=fun hr hl=>hr.mono hl (fun p _=>hk.cell p) hS (fun _ _ _ h=>h);refine ⟨⟨h.lay.below.trans (qy hk.below),fun id o hid=>?_,h.lay.sep,fun b hb=>⟨by rw [hk.size];exact (h.lay.ex b hb).1,(h.lay.ex b hb).2⟩⟩,h.size,hm,h.young,fun t=>⟨hrv (h.env t).1 (h.env t).2,(h.env t).2⟩⟩;have ho:=h.lay.objs id o hid;have hy:=(h.young id o hid).2
 cases o with
 | box t cells=>
  obtain ⟨g,cs,h1,h2,h3,h4,h5⟩:=ho;exact ⟨g,cs,h1,h2,hk.cells _ _ _ _ h3,h4,fun j x av h6 h7=>⟨hrv (h5 j x av h6 h7).1 (ag.1 hy _ (Nr h7)),(h5 j x av h6 h7).2⟩⟩
 | row e sz rows=>
  obtain ⟨h1,xs,hown,h2,h3⟩:=ho;refine ⟨h1,xs,⟨hown.1,?_⟩,h2,fun i j row av ha hb=>?_⟩
  .rcases hown.2 with hn | ⟨g,cap,cur,h4,hb,hh,rest⟩
   .exact .inl hn
   .exact .inr ⟨g,cap,cur,h4,hb,hk.cells _ _ _ _ hh,rest⟩
  .obtain ⟨x,hx,hr⟩:=h3 i j row av ha hb;exact ⟨x,hx,hr.mono (fun p _=>hk.cell p) hS⟩
 | map ents=>
  obtain ⟨b,es,ck,h1,h2,h3,h4⟩:=ho;exact ⟨b,es,ck,h1,h2,hk.maps _ _ _ h3,h4⟩
 | nest e sz rows=>
  obtain ⟨h1,xs,hown,h2,h3⟩:=ho;refine ⟨h1,xs,⟨hown.1,?_⟩,h2,fun i j row av ha hb=>?_⟩
  .rcases hown.2 with hn | ⟨g,cap,cur,h4,hb,hh,rest⟩
   .exact .inl hn
   .exact .inr ⟨g,cap,cur,h4,hb,hk.cells _ _ _ _ hh,rest⟩
  .obtain ⟨x,hx,hr⟩:=h3 i j row av ha hb;exact ⟨x,hx,hrv hr (ag.1 (hy row (Nr ha)) _ (Nr hb))⟩
 | ghost vs env=>exact ⟨ho.1,fun t ht=>hrv (ho.2 t ht) (fW hy t)⟩
end
theorem yW {cx:Cx} {a:Act} {w w':World} {st:aj} {L:Nat -> Value} (h:aG cx a w st L) (hk:iT cx.w0.heap.size w w'):aG cx { a with defers:=[] } w' st L:=Aw h hk (kB.nil _ _ _)
theorem na {P:Program} {fn:Func} {tmps:Array Value} {R:Ending -> World -> Prop} {base:Nat} {S:Nat -> Prop}:∀ (ds:List Deferred) (w:World),kB base w S ds -> (∀ w',iT base w w' -> LeavesIn Fence.wide 0 P fn tmps R [] .returning w') -> LeavesInM Fence.wide 0 P fn tmps R ds .returning w
 | [],w,_,h=>h w (iT.refl _ _)
 | d :: ds,w,hm,h=>by
  obtain ⟨k,rfl,h1,h2,h3⟩:=hm.2 d (Ob ..);have hk:=iT.put h1 h2 none;refine ⟨by simp,.inl ⟨k,_,rfl,run_takeDeferred h2,na (S:=S) ds _ ⟨(List.nodup_cons.1 hm.1).2,fun d' hd'=>?_⟩ fun w' hw'=>h w' (hk.trans hw')⟩⟩;obtain ⟨k',rfl,h4,h5,h6⟩:=hm.2 d' (N7 _ hd');refine ⟨k',rfl,h4,?_,h6⟩;have hne:k' ≠ k:=fun e=>(List.nodup_cons.1 hm.1).1 (by rw [<- e];exact hd');rw [World.putObj_heap_other hne];exact h5
theorem rx {P : Program} {f : FuncId} {fn : Func} {c : Code} (hf : P.funcs[f]? = some fn) (hb : fn.body = some c) (hname : (fn.name == "runtime.NumGoroutine") = false) {args : List AV} {Post : cG → Prop} {n : Nat} (hnt : fn.ntmps = n) {rs : List ResultVar} (hrs : fn.results = rs.toArray) (hn : Nat.ble args.length n = true)
  (h:∀ (cx:Cx) (a:Act) (w:World) (L:Nat -> Value),aG cx a w ⟨n,fl 0 args,[],0⟩ L -> c.wp P (n8 cx (Ab P rs Post)) a w):dn P f args Post:=by
 have hn:=Nat.le_of_ble_eq_true hn;subst hnt;have hrs:fn.results.toList=rs:=by rw [hrs]
 refine ⟨fun vs w=>?_,fun S w vs hS hvs hv=>?_⟩
 ·have : ¬ fn.name = "runtime.NumGoroutine" := by simpa using hname
  simp [callFunc,Sem.run_bind,hf,this,hb]
 .let cx:Cx:=(Cx.mk0 S w hS)
  refine (callsIn_wide (n:=0)).1 (callsIn_of_wp_marks hf hb trivial (wpIn_wide.2 ?_));have hL:im cx w [] (fun _=>undef):=⟨qy (Below.refl _ _),fun id o h=>(by cases h),fun id id' o o' g h=>(by cases h),fun b hb=>hb.elim⟩
  have hC:aG cx { tmps:=vs ++ Array.replicate (fn.ntmps - vs.size) undef,defers:=[] } w ⟨fn.ntmps,fl 0 args,[],0⟩ (fun _=>undef):=by
   refine ⟨hL,?_,kB.nil _ _ _,fun id o h=>(by cases h),fun t=>?_⟩
   .simp;omega
   have e:(⟨fn.ntmps,fl 0 args,[],0⟩:aj).get t=args.getD t .any:=by
    show (if t<fn.ntmps then aX (fl 0 args) t else .any)=_;rw [lS];split
    .simp
    .simp [List.getD,NN (show args.length<=t by omega)]
   rw [e];by_cases ht:t<args.length
   .have ht':t<vs.size:=by omega
    have e2:(vs ++ Array.replicate (fn.ntmps - vs.size) undef).getD t undef=vs[t]:=by
     rw [OU,Py ht',Nx ht'];rfl
    have e3:args.getD t .any=args[t]:=(by simp [List.getD,ht]);rw [e2,e3];have:=hv t _ _ (Nx ht') (Nq ht);exact ⟨.tree (this.mono (fun _ _=>rfl) fun b hb=>⟨hS b hb,⟨.inl hb,fun h=>h⟩,fun id o h=>by cases h⟩),this.lt 0⟩
   .have e3:args.getD t .any=.any:=(by simp [List.getD,NN (Nat.le_of_not_lt ht)]);rw [e3];exact ⟨.tree (.any _),trivial⟩
  refine Code.wp_mono (fun e a w' ⟨st,L,h1,h2⟩=>?_) (h cx _ w _ hC);rw [<- hrs] at h1
  have key:(da P st fn.results.toList fun avs=>∃ R,Post R /\ R.Ok /\ dw R st (jj avs)) -> LeavesInM Fence.wide 0 P fn a.tmps (fun e w'=>∃ v' L R,Post R /\ R.Ok /\ e=.returned v' /\ im cx w' R.tab L /\ bx cx w' R.tab L v' R.r) a.defers .returning w':=fun h1=>by
   refine na _ _ h2.defers fun w2 hk2=>?_;have h2:=yW h2 hk2;clear hk2;generalize w2=w' at h2;obtain ⟨v,av,⟨R,hPost,hok,ren,hnd,hr,ht⟩,h4,h5⟩:=JF (K:=fun av=>∃ R,Post R /\ R.Ok /\ dw R st av) h2 h1;refine ⟨v,h5,v,fun k=>L (ren.getD k 0),R,hPost,hok,rfl,?_⟩;subst hr;have hget:=fun k o=>u9 (st:=st) (T:=R.tab) (k:=k) (o:=o) ht;have hsub:∀ b,Sx cx w' st.tab L b -> Sx cx w' R.tab (fun k=>L (ren.getD k 0)) b:=fun b hb=>⟨hb.1,hb.2.1,fun k o hk=>hb.2.2 _ o (hget k o hk).2.2⟩;refine ⟨⟨h2.lay.below,fun k o hk=>?_,fun k k' o o' g h6 h7 h8 h9=>?_,fun b hb=>hb.elim⟩,ol hsub (fun k p hk=>?_) _ _ h4⟩
   .obtain ⟨h6,⟨e,sz,rows,rfl⟩,h7⟩:=hget k o hk;obtain ⟨h8,xs,h9,h10,h11⟩:=h2.lay.objs _ _ h7;refine ⟨h8,xs,h9,h10,fun i j row av h12 h13=>?_⟩;obtain ⟨x,hx,hrt⟩:=h11 i j row av h12 h13;exact ⟨x,hx,hrt.mono (fun _ _=>rfl) hsub⟩
   .obtain ⟨ha,_,hb⟩:=hget k o h6;obtain ⟨ha',_,hb'⟩:=hget k' o' h7;have:=h2.lay.sep _ _ o o' g hb hb' h8 h9;simp only [List.getD,Nq ha,Nq ha',NX] at this;have hp:=O1.1 hnd;rcases Pp k k' with hlt|he|hlt
    .exact absurd this (hp k k' ha ha' hlt)
    .exact he
    .exact absurd this.symm (hp k' k ha' ha hlt)
   .unfold Kx at *
    cases ho:R.tab.get k with
    | none=>simp [ho] at hk
    | some o=>
     rw [(hget k o ho).2.2];simpa [ho] using hk
  cases e with
  | normal=>exact key h1
  | ret=>exact key h1
  | _=>exact h1.elim
theorem lg {P:Program} {st:aj}:∀ {l:List ResultVar} {K K':List AV -> Prop},(∀ avs,K avs -> K' avs) -> da P st l K -> da P st l K'
 | [],K,K',h,hp=>h _ hp
 | .tmp t :: l,K,K',h,hp=>lg (l:=l) (fun avs h2=>h _ h2) hp
 | .cell p ty :: l,K,K',h,hp=>by
  have step:∀ av,(da P st l fun avs=>K (av :: avs)) -> da P st l fun avs=>K' (av :: avs):=fun av=>lg (l:=l) (fun avs h2=>h _ h2)
  have take:∀ cs,mF P ty cs (fun av=>da P st l fun avs=>K (av :: avs)) -> mF P ty cs (fun av=>da P st l fun avs=>K' (av :: avs)):=fun cs ⟨h1,h2,h3⟩=>⟨h1,h2,by
   split at h3
   .rw [ND (by assumption)];exact step _ h3
   .rw [Ny (by assumption)];exact step _ h3⟩
  unfold da ji at hp ⊢;split at hp
  .exact take _ hp
  .split at hp
   .rename_i h0
    first|simp only [h0]|skip
    exact ⟨hp.1,take _ hp.2⟩
   .rename_i h0
    first|simp only [h0]|skip
    exact ⟨hp.1,take _ hp.2⟩
   .rename_i h0
    first|simp only [h0]|skip
    exact ⟨hp.1,take _ hp.2⟩
   .exact hp.elim
  .exact hp.elim
theorem Lx {P:Program} {rs:List ResultVar} {R:cG} (hok:R.Ok) (e:Exit) (st:aj) (h:Dq P rs R e st):Ab P rs (fun R'=>R'=R) e st:=by
 cases e with
 | normal=>exact lg (fun avs h=>⟨R,rfl,hok,h⟩) h
 | ret=>exact lg (fun avs h=>⟨R,rfl,hok,h⟩) h
 | _=>exact h.elim
theorem rq {P : Program} {f : FuncId} {fn : Func} {c : Code} (hf : P.funcs[f]? = some fn) (hb : fn.body = some c) (hname : (fn.name == "runtime.NumGoroutine") = false) {args : List AV} {R : cG} {n : Nat} (hnt : fn.ntmps = n) {rs : List ResultVar} (hrs : fn.results = rs.toArray) (hn : Nat.ble args.length n = true)
  (hok:R.Ok) (h:∀ (cx:Cx) (a:Act) (w:World) (L:Nat -> Value),aG cx a w ⟨n,fl 0 args,[],0⟩ L -> c.wp P (n8 cx (Dq P rs R)) a w):ax P f args R:=
 rx hf hb hname hnt hrs hn fun cx a w L hc=>Code.wp_mono (fun e a w ⟨st,L,h1,h2⟩=>⟨st,L,Lx hok e st h1,h2⟩) (h cx a w L hc)
theorem aM {P : Program} (hm : P.follows .mixedOrders = true) {f : FuncId} {fn : Func} {c : Code} (hf : P.funcs[f]? = some fn) (hb : fn.body = some c) (hname : (fn.name == "runtime.NumGoroutine") = false) {args : List AV} {Post : cG → Prop} {n : Nat} (hnt : fn.ntmps = n) {rs : List ResultVar} (hrs : fn.results = rs.toArray) (hn : Nat.ble args.length n = true)
  (h:bD P c (Ab P rs Post) ⟨n,fl 0 args,[],0⟩):dn P f args Post:=
 rx hf hb hname hnt hrs hn fun cx a w L hc=>uv hm c _ a w _ L hc h
theorem aa {P : Program} (hm : P.follows .mixedOrders = true) {f : FuncId} {fn : Func} {c : Code} (hf : P.funcs[f]? = some fn) (hb : fn.body = some c) (hname : (fn.name == "runtime.NumGoroutine") = false) {args : List AV} {R : cG} {n : Nat} (hnt : fn.ntmps = n) {rs : List ResultVar} (hrs : fn.results = rs.toArray) (hn : Nat.ble args.length n = true)
  (hok:R.Ok) (h:bD P c (Dq P rs R) ⟨n,fl 0 args,[],0⟩):ax P f args R:=
 rq hf hb hname hnt hrs hn hok fun cx a w L hc=>uv hm c _ a w _ L hc h
end
section
def ku (st:aj):List (Nat × AV) -> Prop
 | []=>True
 | (t,av) :: l=>st.get t=av /\ ku st l
def ky (st:aj):af -> Prop
 | []=>True
 | (id,o) :: l=>st.tab.get id=o /\ ky st l
def cr (nx:Nat):af -> Prop
 | []=>True
 | (id,some o) :: l=>(id<nx /\ o.lt nx) /\ cr nx l
 | (_,none) :: l=>cr nx l
theorem rX {st:aj} {nx:Nat}:∀ {l:List (Nat × AV)} (t:Nat),ku st l -> cT nx l -> (aX l t=st.get t \/ aX l t=.any) /\ (aX l t).lt nx
 | [],t,_,_=>⟨.inr rfl,trivial⟩
 | (k,av) :: l,t,h,hl=>by
  unfold aX;split
  .rename_i e;rw [e];exact ⟨.inl h.1.symm,hl.1⟩
  .exact rX t h.2 hl.2
theorem kS {st:aj} {nx:Nat}:∀ {l:af} {id:Nat} {o:aE},ky st l -> cr nx l -> l.get id=some o -> st.tab.get id=some o /\ id<nx /\ o.lt nx
 | [],id,o,_,_,h=>by cases h
 | (k,oo) :: l,id,o,h,hl,hg=>by
  rw [af.gc] at hg;split at hg
  .rename_i e;subst e;subst hg;exact ⟨h.1,hl.1.1,hl.1.2⟩
  .cases oo with
   | none=>exact kS h.2 hl hg
   | some=>exact kS h.2 hl.2 hg
theorem FT {st:aj} {n nx:Nat} {env:List (Nat × AV)} {tab:af} (hn:st.n=n) (he:ku st env) (ht:ky st tab) (hl:cT nx env) (hl2:cr nx tab):eX st ⟨n,env,tab,nx⟩:=by
 intro cx a w L h;have hsub:∀ id o,tab.get id=some o -> st.tab.get id=some o:=fun id o hid=>(kS ht hl2 hid).1;have hS:∀ b,Sx cx w st.tab L b -> Sx cx w tab L b:=fun b hb=>⟨hb.1,hb.2.1,fun id o hid=>hb.2.2 id o (hsub id o hid)⟩
 have hK:∀ id p,Kx tab L id=some p -> Kx st.tab L id=some p:=fun id p hk=>by
  unfold Kx at *
  cases ho:tab.get id with
  | none=>simp [ho] at hk
  | some o=>rw [hsub id o ho];simpa [ho] using hk
 have hrv:∀ x av,bx cx w st.tab L x av -> bx cx w tab L x av:=fun x av hr=>by
  have:∀ nx',av.lt nx' -> bx cx w tab L x av:=fun nx' hlt=>hr.mono hlt (fun _ _=>rfl) hS (fun id p _ hk=>hK id p hk)
  induction hr with
  | tree h=>exact .tree (h.mono (fun _ _=>rfl) hS)
  | osl x id h=>exact .osl x id fun sz v e=>h sz v (hK id _ e)
  | op x id i j h=>exact .op x id i j fun sz v e=>h sz v (hK id _ e)
  | agg xs cs hn hr ih=>exact .agg xs cs hn fun j x av h1 h2=>ih j x av h1 h2 fun nx' hlt=>(hr j x av h1 h2).mono hlt (fun _ _=>rfl) hS (fun id p _ hk=>hK id p hk)
  | tup xs cs hn hr ih=>exact .tup xs cs hn fun j x av h1 h2=>ih j x av h1 h2 fun nx' hlt=>(hr j x av h1 h2).mono hlt (fun _ _=>rfl) hS (fun id p _ hk=>hK id p hk)
  | fn fi xs cs hn hr ih=>exact .fn fi xs cs hn fun j x av h1 h2=>ih j x av h1 h2 fun nx' hlt=>(hr j x av h1 h2).mono hlt (fun _ _=>rfl) hS (fun id p _ hk=>hK id p hk)
  | bfn fi xs cs hn hr ih=>exact .bfn fi xs cs hn fun j x av h1 h2=>ih j x av h1 h2 fun nx' hlt=>(hr j x av h1 h2).mono hlt (fun _ _=>rfl) hS (fun id p _ hk=>hK id p hk)
 refine ⟨L,⟨⟨h.lay.below,fun id o hid=>?_,fun id id' o o' g h1 h2=>h.lay.sep id id' o o' g (hsub id o h1) (hsub id' o' h2),fun b hb=>⟨(h.lay.ex b hb).1,fun id o hid=>(h.lay.ex b hb).2 id o (hsub id o hid)⟩⟩,h.size.trans hn,h.defers.mono (fun _ _=>rfl) hS,fun id o hid=>(kS ht hl2 hid).2,fun t=>?_⟩,hS⟩
 .have ho:=h.lay.objs id o (hsub id o hid);have hext:kP cx w st.tab L 0 w tab L:=⟨fun _ _=>rfl,hS,fun id p hlt=>by omega⟩
  cases o with
  | box t cells=>
   obtain ⟨g,cs,h1,h2,h3,h4,h5⟩:=ho;exact ⟨g,cs,h1,h2,h3,h4,fun j x av h6 h7=>⟨hrv x av (h5 j x av h6 h7).1,(h5 j x av h6 h7).2⟩⟩
  | row e sz rows=>
   obtain ⟨h1,xs,h2,h3,h4⟩:=ho;refine ⟨h1,xs,h2,h3,fun i j row av h5 h6=>?_⟩;obtain ⟨x,hx,hr⟩:=h4 i j row av h5 h6;exact ⟨x,hx,hext.rt hr⟩
  | map ents=>exact ho
  | nest e sz rows=>
   obtain ⟨h1,xs,h2,h3,h4⟩:=ho;refine ⟨h1,xs,h2,h3,fun i j row av h5 h6=>?_⟩;obtain ⟨x,hx,hr⟩:=h4 i j row av h5 h6;exact ⟨x,hx,hrv x av hr⟩
  | ghost vs env=>exact ⟨ho.1,fun t ht=>hrv _ _ (ho.2 t ht)⟩
 .obtain ⟨h1,h2⟩:=rX t he hl;show bx cx w tab L _ (if t<n then aX env t else .any) /\ (if t<n then aX env t else .any).lt nx;split
  case isFalse=>exact ⟨.tree (.any _),trivial⟩
  refine ⟨?_,h2⟩;rcases h1 with h1|h1
  .rw [h1];exact hrv _ _ (h.env t).1
  .rw [h1];exact .tree (.any _)
theorem eX.trans {st st' st'':aj} (h:eX st st') (h2:eX st' st''):eX st st'':=fun cx a w L hc=>(h cx a w L hc).elim fun L' hc'=>(h2 cx a w L' hc'.1).elim fun L2 h3=>⟨L2,h3.1,fun b hb=>h3.2 b (hc'.2 b hb)⟩
def ti (l:List Nat):List (Nat × AV) -> List (Nat × AV)
 | []=>[]
 | (t,av) :: r=>(t,av.ren l) :: ti l r
theorem re (l:List Nat):∀ (r:List (Nat × AV)) (t:Nat),aX (ti l r) t=(aX r t).ren l
 | [],t=>rfl
 | (q,av) :: r,t=>by
  unfold ti aX;split
  .rfl
  .exact re l r t
def aE.ren (l:List Nat):aE -> aE
 | .box t cells=>.box t (AV.renL l cells)
 | .row e sz rows=>.row e sz rows
 | .nest e sz rows=>.nest e sz (rows.map (AV.renL l))
 | .map ents=>.map ents
 | .ghost vs env=>.ghost vs (ti l env)
theorem aE.ren_sz (l:List Nat) (o:aE):(o.ren l).sz=o.sz:=by cases o<;>simp [aE.ren,aE.sz,be]
def iE (st:aj) (ids:List Nat):List (Nat × AV) -> Prop
 | []=>True
 | (t,av) :: l=>st.get t=av.ren ids /\ iE st ids l
def gZ (st:aj) (ids:List Nat):af -> Prop
 | []=>True
 | (id,some o) :: l=>(id<ids.length /\ st.tab.get (ids.getD id 0)=some (o.ren ids)) /\ gZ st ids l
 | (_,none) :: l=>gZ st ids l
theorem qC {st:aj} {ids:List Nat} {nx:Nat}:∀ {l:List (Nat × AV)} (t:Nat),iE st ids l -> cT nx l -> ((aX l t).ren ids=st.get t \/ aX l t=.any) /\ (aX l t).lt nx
 | [],t,_,_=>⟨.inr rfl,trivial⟩
 | (k,av) :: l,t,h,hl=>by
  unfold aX;split
  .rename_i e;rw [e];exact ⟨.inl h.1.symm,hl.1⟩
  .exact qC t h.2 hl.2
theorem jL {st:aj} {ids:List Nat} {nx:Nat}:∀ {l:af} {id:Nat} {o:aE},gZ st ids l -> cr nx l -> l.get id=some o -> (id<ids.length /\ st.tab.get (ids.getD id 0)=some (o.ren ids)) /\ id<nx /\ o.lt nx
 | [],id,o,_,_,h=>by cases h
 | (k,some oo) :: l,id,o,h,hl,hg=>by
  rw [af.gc] at hg;split at hg
  .rename_i e;subst e;cases hg;exact ⟨h.1,hl.1.1,hl.1.2⟩
  .exact jL h.2 hl.2 hg
 | (k,none) :: l,id,o,h,hl,hg=>by
  rw [af.gc] at hg;split at hg
  .cases hg
  .exact jL (l:=l) h hl hg
theorem Fc {st:aj} {n nx:Nat} {env:List (Nat × AV)} {tab:af} (ids:List Nat) (hnd:ids.Nodup) (hn:st.n=n) (he:iE st ids env) (ht:gZ st ids tab) (hl:cT nx env) (hl2:cr nx tab):eX st ⟨n,env,tab,nx⟩:=by
 intro cx a w L h;have hget:∀ k o,tab.get k=some o -> k<ids.length /\ st.tab.get (ids.getD k 0)=some (o.ren ids):=fun k o hk=>(jL ht hl2 hk).1;have hS:∀ b,Sx cx w st.tab L b -> Sx cx w tab (fun k=>L (ids.getD k 0)) b:=fun b hb=>⟨hb.1,hb.2.1,fun k o hk=>hb.2.2 _ _ (hget k o hk).2⟩
 have hK:∀ k p,Kx tab (fun k=>L (ids.getD k 0)) k=some p -> Kx st.tab L (ids.getD k 0)=some p:=fun k p hk=>by
  unfold Kx at *
  cases ho:tab.get k with
  | none=>simp [ho] at hk
  | some o=>
   rw [(hget k o ho).2];simpa [ho,aE.ren_sz] using hk
 refine ⟨fun k=>L (ids.getD k 0),⟨⟨h.lay.below,fun k o hk=>?_,fun k k' o o' g h6 h7 h8 h9=>?_,fun b hb=>⟨(h.lay.ex b hb).1,fun k o hk=>(h.lay.ex b hb).2 _ _ (hget k o hk).2⟩⟩,h.size.trans hn,h.defers.mono (fun _ _=>rfl) hS,fun id o hid=>(jL ht hl2 hid).2,fun t=>?_⟩,hS⟩
 .obtain ⟨_,h7⟩:=hget k o hk;have ho:=h.lay.objs _ _ h7
  cases o with
  | box t cells=>
   obtain ⟨g,cs,h1,h2,h3,h4,h5⟩:=ho;refine ⟨g,cs,h1,h2,h3,by simpa [be] using h4,fun j x av h6 h8=>?_⟩;have h9:=h5 j x (av.ren ids) h6 (by rw [be,Nu,h8];rfl);exact ⟨ol hS hK av x h9.1,h9.2⟩
  | row e sz rows=>
   obtain ⟨h1,xs,h2,h3,h4⟩:=ho;refine ⟨h1,xs,h2,h3,fun i j row av h5 h6=>?_⟩;obtain ⟨x,hx,hr⟩:=h4 i j row av h5 h6;exact ⟨x,hx,hr.mono (fun _ _=>rfl) hS⟩
  | map ents=>exact ho
  | nest e sz rows=>
   obtain ⟨h1,xs,h2,h3,h4⟩:=ho;refine ⟨fun row hr=>by simpa [be] using h1 (AV.renL ids row) (NC.2 ⟨row,hr,rfl⟩),xs,by simpa using h2,h3,fun i j row av h5 h6=>?_⟩;obtain ⟨x,hx,hr⟩:=h4 i j (AV.renL ids row) (av.ren ids) (by rw [Nu,h5];rfl) (by rw [be,Nu,h6];rfl);exact ⟨x,hx,ol hS hK _ _ hr⟩
  | ghost vs env=>
   refine ⟨ho.1,fun t ht=>ol hS hK _ _ ?_⟩;have h9:=ho.2 t ht
   rwa [re] at h9
 .obtain ⟨ha,hb⟩:=hget k o h6;obtain ⟨ha',hb'⟩:=hget k' o' h7;have:=h.lay.sep _ _ _ _ g hb hb' h8 h9;simp only [List.getD,Nq ha,Nq ha',NX] at this;have hp:=O1.1 hnd;rcases Pp k k' with hlt|he|hlt
  .exact absurd this (hp k k' ha ha' hlt)
  .exact he
  .exact absurd this.symm (hp k' k ha' ha hlt)
 .obtain ⟨h1,h2⟩:=qC t he hl;show bx cx w tab _ _ (if t<n then aX env t else .any) /\ (if t<n then aX env t else .any).lt nx;split
  case isFalse=>exact ⟨.tree (.any _),trivial⟩
  refine ⟨?_,h2⟩;rcases h1 with h1|h1
  .refine ol hS hK _ _ ?_;rw [h1];exact (h.env t).1
  .rw [h1];exact .tree (.any _)
theorem aR {st:aj} (t e sz:Nat) (hg:st.get t=.c (.slice none 0 0)):eX st ⟨st.n,(t,.osl st.next) :: st.env,(st.next,some (.row e sz [])) :: st.tab,st.next+1⟩:=by
 intro cx a w L h;have hv:=(h.env t).1;rw [hg] at hv;have hv:=hv.c_inv
 have hput:a.put (some t) (.slice none 0 0)=a:=by
  unfold Act.put
  have:a.tmps.setIfInBounds t (.slice none 0 0)=a.tmps:=by
   apply Array.ext (by simp);intro i h1 h2;rw [Array.getElem_setIfInBounds];split
   .rename_i e;subst e;rw [<- hv];simp [Array.getD,h2]
   .rfl
  simp only [this]
 refine ⟨a6 L st.next (.slice none 0 0),?_,fun b hb=>⟨hb.1,hb.2.1,fun k o hk hg=>?_⟩⟩
 rotate_left
 .have hk:af.get ((st.next,some (.row e sz [])) :: st.tab) k=some o:=hk;rw [af.gc] at hk;unfold a6 at hg;split at hk
  .rename_i e1;rw [ND e1] at hg;simp [aF] at hg
  .rename_i e1;rw [Ny e1] at hg;exact hb.2.2 k o hk hg
 have:=iW (ob:=.row e sz []) (v:=.slice none 0 0) (x:=.slice none 0 0) (av:=.osl st.next) h (Below.refl _ _) (fun g hg=>by simp [aF] at hg) (fun hext=>⟨by simp,[],iV ..,by simp,by simp⟩) trivial (fun hext=>?_) (Ot _) (some t)
 .rw [hput] at this;exact this
 .refine .osl _ _ fun sz u hk=>?_;simp [Kx,af.gc,a6] at hk;exact hk.2
theorem gP {st:aj} {n nx:Nat} {env:List (Nat × AV)} {tab:af} (h:st.n=n /\ (ku st env /\ ky st tab) /\ cT nx env /\ cr nx tab):eX st ⟨n,env,tab,nx⟩:=FT h.1 h.2.1.1 h.2.1.2 h.2.2.1 h.2.2.2
theorem kI {st:aj} {n nx:Nat} {env:List (Nat × AV)} {tab:af} (ids:List Nat) (h:ids.Nodup /\ st.n=n /\ (iE st ids env /\ gZ st ids tab) /\ cT nx env /\ cr nx tab):eX st ⟨n,env,tab,nx⟩:=Fc ids h.1 h.2.1 h.2.2.1.1 h.2.2.1.2 h.2.2.2.1 h.2.2.2.2
def aq (st:aj) (t:Nat):Nat:=match st.get t with | .c (.int _ n)=>n.toNat | _=>0
theorem ar {x:Int} (h1:-9223372036854775808<=x) (h2:x<=9223372036854775807):IntKind.i64.wrap x=x:=by
 rw [IntKind.wrap_i64];omega
theorem mD {k:Nat} (h:k<=4611686018427387904):IntKind.i64.wrap ((k:Int)+1)=((k+1:Nat):Int):=by
 rw [ar (by omega) (by omega)];omega
def val (v:Value):cG:=⟨.c v,[],0⟩
theorem aH (v:Value):(val v).Ok:=⟨fun id o h=>(by cases h),trivial⟩
theorem sN {v:Value} {st:aj} {av:AV} (h:av=.c v):dw (val v) st av:=⟨[],List.nodup_nil,by rw [h];rfl,trivial⟩
theorem yQ {v:Value} {st:aj} {av:AV}:dw (val v) st av=(av=.c v):=propext ⟨fun ⟨ren,_,h,_⟩=>h.symm,sN⟩
abbrev eI (n:Int):AV:=.c (.int .i64 n)
abbrev eB (b:Bool):AV:=.c (.bool b)
abbrev eS (s:ByteArray):AV:=.c (.string s)
abbrev sI (l:List Int):AV:=.sl 1 (l.map fun n=>[eI n])
theorem ab {α:Type} {f:α -> List AV} {l:List α} {k:Nat} (h:k<l.length):(l.map f)[k]?.getD []=f l[k]:=by
 rw [Nu,Nq h];rfl
theorem aL {P:Program} {g:FuncId} {args:List AV} {v:Value} {K:Value -> Prop} (h:ax P g args (val v)) (hk:K v):∃ v,ax P g args ⟨.c v,[],0⟩ /\ K v:=⟨v,h,hk⟩
theorem fa {I:aj -> Prop} {μ:aj -> Nat} {n:Nat} {st st':aj} (hw:eX st st') (hI:I st') (hm:μ st'<n):qn I μ n st:=⟨st',hw,hI,hm⟩
end
section
theorem Lo:bL Tryz.prog 32=true:=by kernel_rfl
theorem I3:ap Tryz.prog 32=10:=by kernel_rfl
theorem LL:bf Tryz.prog 33=(56,7):=by kernel_rfl
theorem Md:xl Tryz.prog 3=L7.int:=by kernel_rfl
theorem KI:bf Tryz.prog 23=(2,1):=by kernel_rfl
theorem K1:bX Tryz.prog 44=some (Value.agg #[Value.slice none 0 0,Value.slice none 0 0]):=by kernel_rfl
theorem Jm:ap Tryz.prog 44=2:=by kernel_rfl
theorem Kc:bL Tryz.prog 44=true:=by kernel_rfl
theorem La:bf Tryz.prog 47=(50,1):=by kernel_rfl
theorem Lv:cS Tryz.prog 50=some (3,1,8):=by kernel_rfl
theorem Ls:ww 50=false:=by kernel_rfl
theorem I1:cS Tryz.prog 51=some (4,1,1):=by kernel_rfl
theorem Jo:ww 51=false:=by kernel_rfl
theorem Gp:bN Tryz.prog 56 0=some 0:=by kernel_rfl
theorem My:bL Tryz.prog 3=false:=by kernel_rfl
theorem MK:ap Tryz.prog 3=1:=by kernel_rfl
theorem DJ:bN Tryz.prog 44 0=some 0:=by kernel_rfl
theorem Lh:bL Tryz.prog 41=false:=by kernel_rfl
theorem Kh:ap Tryz.prog 41=1:=by kernel_rfl
theorem Jj:bf Tryz.prog 41=(62,6):=by kernel_rfl
theorem Lr:bL Tryz.prog 62=true:=by kernel_rfl
theorem Jb:ap Tryz.prog 62=6:=by kernel_rfl
theorem Ko:bL Tryz.prog 56=true:=by kernel_rfl
theorem I2:ap Tryz.prog 56=7:=by kernel_rfl
theorem LM:bf Tryz.prog 51=(4,1):=by kernel_rfl
theorem MH:ap Tryz.prog 4=1:=by kernel_rfl
theorem KF:bf Tryz.prog 50=(3,1):=by kernel_rfl
theorem MW:bL Tryz.prog 4=false:=by kernel_rfl
theorem Je:cS Tryz.prog 49=some (51,1,24):=by kernel_rfl
theorem JD:bf Tryz.prog 49=(51,1):=by kernel_rfl
theorem KY:bL Tryz.prog 51=false:=by kernel_rfl
theorem KX:ap Tryz.prog 51=1:=by kernel_rfl
theorem Lm:bf Tryz.prog 34=(76,9):=by kernel_rfl
theorem Mj:xl Tryz.prog 4=L7.bool:=by kernel_rfl
theorem KG:cS Tryz.prog 23=some (2,1,8):=by kernel_rfl
theorem FJ:bN Tryz.prog 44 1=some 1:=by kernel_rfl
theorem K2:bL Tryz.prog 42=false:=by kernel_rfl
theorem JI:ap Tryz.prog 42=1:=by kernel_rfl
theorem Ky:dc Tryz.prog 76=some ([(0,1),(1,2),(3,2),(5,1),(6,1),(7,2)],[Value.int IntKind.i64 0,Value.string ByteArray.empty,Value.int IntKind.i64 0,Value.string ByteArray.empty,Value.int IntKind.i64 0,Value.string ByteArray.empty,Value.string ByteArray.empty,Value.int IntKind.i64 0,Value.int IntKind.i64 0]):=by kernel_rfl
theorem JK:cS Tryz.prog 34=some (76,9,104):=by kernel_rfl
theorem Ez:bN Tryz.prog 32 6=some 6:=by kernel_rfl
theorem K3:bL Tryz.prog 27=false:=by kernel_rfl
theorem Jc:ap Tryz.prog 27=1:=by kernel_rfl
theorem JU:bf Tryz.prog 27=(78,3):=by kernel_rfl
theorem Er:bN Tryz.prog 32 7=some 7:=by kernel_rfl
theorem Ly:bL Tryz.prog 28=false:=by kernel_rfl
theorem Lz:ap Tryz.prog 28=1:=by kernel_rfl
theorem JL:bf Tryz.prog 28=(80,5):=by kernel_rfl
theorem C9:bN Tryz.prog 32 4=some 4:=by kernel_rfl
theorem J2:bL Tryz.prog 25=false:=by kernel_rfl
theorem JQ:ap Tryz.prog 25=1:=by kernel_rfl
theorem I6:bf Tryz.prog 25=(125,2):=by kernel_rfl
theorem C8:bN Tryz.prog 32 5=some 5:=by kernel_rfl
theorem JV:bL Tryz.prog 26=false:=by kernel_rfl
theorem KM:ap Tryz.prog 26=1:=by kernel_rfl
theorem Ja:bf Tryz.prog 26=(82,5):=by kernel_rfl
theorem CP:bN Tryz.prog 32 0=some 0:=by kernel_rfl
theorem Kf:bL Tryz.prog 22=false:=by kernel_rfl
theorem LB:ap Tryz.prog 22=1:=by kernel_rfl
theorem K8:bf Tryz.prog 22=(9,1):=by kernel_rfl
theorem Dt:bN Tryz.prog 32 2=some 2:=by kernel_rfl
theorem C0:bN Tryz.prog 32 3=some 3:=by kernel_rfl
theorem Ld:bL Tryz.prog 24=false:=by kernel_rfl
theorem I0:ap Tryz.prog 24=1:=by kernel_rfl
theorem Jk:bf Tryz.prog 24=(144,2):=by kernel_rfl
theorem Ej:bN Tryz.prog 32 8=some 8:=by kernel_rfl
theorem LA:bL Tryz.prog 29=false:=by kernel_rfl
theorem Ln:ap Tryz.prog 29=1:=by kernel_rfl
theorem I9:bf Tryz.prog 29=(149,2):=by kernel_rfl
theorem CN:bN Tryz.prog 32 9=some 9:=by kernel_rfl
theorem J9:bL Tryz.prog 30=false:=by kernel_rfl
theorem KE:ap Tryz.prog 30=1:=by kernel_rfl
theorem I4:bf Tryz.prog 30=(154,2):=by kernel_rfl
theorem EG:bN Tryz.prog 32 1=some 1:=by kernel_rfl
theorem LT:bL Tryz.prog 23=false:=by kernel_rfl
theorem Km:ap Tryz.prog 23=1:=by kernel_rfl
theorem CW:bN Tryz.prog 78 2=some 2:=by kernel_rfl
theorem J1:bL Tryz.prog 33=false:=by kernel_rfl
theorem I5:ap Tryz.prog 33=1:=by kernel_rfl
theorem FW:bN Tryz.prog 80 3=some 3:=by kernel_rfl
theorem EZ:bN Tryz.prog 82 3=some 3:=by kernel_rfl
theorem Ks:bL Tryz.prog 50=false:=by kernel_rfl
theorem Jy:ap Tryz.prog 50=1:=by kernel_rfl
theorem Ke:cS Tryz.prog 47=some (50,1,24):=by kernel_rfl
theorem Kv:cS Tryz.prog 41=some (62,6,112):=by kernel_rfl
theorem JR:dc Tryz.prog 44=some ([(0,1),(1,1)],[Value.slice none 0 0,Value.slice none 0 0]):=by kernel_rfl
theorem KH:bf Tryz.prog 94=(99,8):=by kernel_rfl
theorem C6:bN Tryz.prog 99 2=some 2:=by kernel_rfl
theorem DT:bN Tryz.prog 99 0=some 0:=by kernel_rfl
theorem FV:bN Tryz.prog 99 1=some 1:=by kernel_rfl
theorem Iy:dc Tryz.prog 101=some ([(0,1),(1,1),(2,1)],[Value.int IntKind.i64 0,Value.int IntKind.i64 0,Value.int IntKind.i64 0]):=by kernel_rfl
theorem Kn:cS Tryz.prog 96=some (101,3,24):=by kernel_rfl
theorem JS:cS Tryz.prog 42=some (96,1,24):=by kernel_rfl
theorem Kb:bf Tryz.prog 42=(96,1):=by kernel_rfl
theorem K7:bL Tryz.prog 96=false:=by kernel_rfl
theorem Kd:ap Tryz.prog 96=1:=by kernel_rfl
theorem L4:bf Tryz.prog 96=(101,3):=by kernel_rfl
theorem A3:bN Tryz.prog 101 2=some 2:=by kernel_rfl
theorem Kz:cS Tryz.prog 33=some (56,7,56):=by kernel_rfl
theorem D6:bN Tryz.prog 62 0=some 0:=by kernel_rfl
theorem JX:bL Tryz.prog 60=true:=by kernel_rfl
theorem JN:ap Tryz.prog 60=2:=by kernel_rfl
theorem GO:dc Tryz.prog 106=some ([(0,1),(1,1),(2,1),(3,1),(4,1)],[Value.slice none 0 0,Value.int IntKind.i64 0,Value.int IntKind.i64 0,Value.slice none 0 0,Value.slice none 0 0]):=by kernel_rfl
theorem Jt:bL Tryz.prog 47=false:=by kernel_rfl
theorem Jd:ap Tryz.prog 47=1:=by kernel_rfl
theorem KD:bX Tryz.prog 50=some (Value.slice none 0 0):=by kernel_rfl
theorem Mn:bX Tryz.prog 3=some (Value.int IntKind.i64 0):=by kernel_rfl
theorem Jq:ww 47=false:=by kernel_rfl
theorem DI:bN Tryz.prog 76 0=some 0:=by kernel_rfl
theorem Lg:bX Tryz.prog 32=some (Value.agg #[Value.slice none 0 0,Value.slice none 0 0,Value.slice none 0 0,Value.slice none 0 0,Value.slice none 0 0,Value.slice none 0 0,Value.slice none 0 0,Value.slice none 0 0,Value.slice none 0 0,Value.slice none 0 0]):=by kernel_rfl
theorem ID:dc Tryz.prog 128=some ([(0,1),(1,1)],[Value.int IntKind.i64 0,Value.int IntKind.i64 0]):=by kernel_rfl
theorem JM:cS Tryz.prog 58=some (128,2,16):=by kernel_rfl
theorem JA:dc Tryz.prog 60=some ([(0,1),(1,1)],[Value.slice none 0 0,Value.slice none 0 0]):=by kernel_rfl
theorem Ka:dc Tryz.prog 62=some ([(0,2),(2,1),(3,1),(4,1),(5,1)],[Value.slice none 0 0,Value.slice none 0 0,Value.int IntKind.i64 0,Value.int IntKind.i64 0,Value.slice none 0 0,Value.slice none 0 0]):=by kernel_rfl
theorem LJ:bX Tryz.prog 62=some (Value.agg #[Value.slice none 0 0,Value.slice none 0 0,Value.int IntKind.i64 0,Value.int IntKind.i64 0,Value.slice none 0 0,Value.slice none 0 0]):=by kernel_rfl
theorem Cq:bN Tryz.prog 144 1=some 1:=by kernel_rfl
theorem Av:bN Tryz.prog 125 1=some 1:=by kernel_rfl
theorem KO:bL Tryz.prog 82=true:=by kernel_rfl
theorem LP:ap Tryz.prog 82=5:=by kernel_rfl
theorem Jl:bX Tryz.prog 82=some (Value.agg #[Value.string ByteArray.empty,Value.int IntKind.i64 0,Value.int IntKind.i64 0,Value.slice none 0 0,Value.int IntKind.i64 0]):=by kernel_rfl
theorem FM:bN Tryz.prog 82 1=some 1:=by kernel_rfl
theorem Fo:bN Tryz.prog 82 2=some 2:=by kernel_rfl
theorem JO:bL Tryz.prog 78=true:=by kernel_rfl
theorem Ki:ap Tryz.prog 78=3:=by kernel_rfl
theorem Lt:bX Tryz.prog 78=some (Value.agg #[Value.int IntKind.i64 0,Value.int IntKind.i64 0,Value.slice none 0 0]):=by kernel_rfl
theorem Fm:bN Tryz.prog 78 0=some 0:=by kernel_rfl
theorem EO:bN Tryz.prog 78 1=some 1:=by kernel_rfl
theorem JJ:bL Tryz.prog 80=true:=by kernel_rfl
theorem KS:ap Tryz.prog 80=5:=by kernel_rfl
theorem Kp:bX Tryz.prog 80=some (Value.agg #[Value.string ByteArray.empty,Value.int IntKind.i64 0,Value.int IntKind.i64 0,Value.slice none 0 0,Value.bool false]):=by kernel_rfl
theorem EE:bN Tryz.prog 80 1=some 1:=by kernel_rfl
theorem Es:bN Tryz.prog 80 2=some 2:=by kernel_rfl
theorem BS:bN Tryz.prog 149 0=some 0:=by kernel_rfl
theorem BB:bN Tryz.prog 149 1=some 1:=by kernel_rfl
theorem FL:bN Tryz.prog 82 4=some 4:=by kernel_rfl
theorem Jp:cS Tryz.prog 30=some (154,2,16):=by kernel_rfl
theorem GE:bL Tryz.prog 154=true:=by kernel_rfl
theorem GR:ap Tryz.prog 154=2:=by kernel_rfl
theorem Dk:bN Tryz.prog 56 1=some 1:=by kernel_rfl
theorem DW:bN Tryz.prog 54 0=some 0:=by kernel_rfl
theorem FH:bN Tryz.prog 54 1=some 1:=by kernel_rfl
theorem MJ:bL Tryz.prog 2=false:=by kernel_rfl
theorem Me:ap Tryz.prog 2=1:=by kernel_rfl
theorem FY:bN Tryz.prog 56 2=some 3:=by kernel_rfl
theorem Mp:xl Tryz.prog 2=L7.int:=by kernel_rfl
theorem Hu:bX Tryz.prog 106=some (Value.agg #[Value.slice none 0 0,Value.int IntKind.i64 0,Value.int IntKind.i64 0,Value.slice none 0 0,Value.slice none 0 0]):=by kernel_rfl
theorem Ip:ap Tryz.prog 106=5:=by kernel_rfl
theorem E6:bN Tryz.prog 62 4=some 5:=by kernel_rfl
theorem HV:bL Tryz.prog 106=true:=by kernel_rfl
theorem G0:bf Tryz.prog 159=(60,2):=by kernel_rfl
theorem Lq:dc Tryz.prog 99=some ([(0,1),(1,1),(2,6)],[Value.int IntKind.i64 0,Value.int IntKind.i64 0,Value.slice none 0 0,Value.slice none 0 0,Value.int IntKind.i64 0,Value.int IntKind.i64 0,Value.slice none 0 0,Value.slice none 0 0]):=by kernel_rfl
theorem K6:bX Tryz.prog 99=some (Value.agg #[Value.int IntKind.i64 0,Value.int IntKind.i64 0,Value.slice none 0 0,Value.slice none 0 0,Value.int IntKind.i64 0,Value.int IntKind.i64 0,Value.slice none 0 0,Value.slice none 0 0]):=by kernel_rfl
theorem JT:ap Tryz.prog 99=8:=by kernel_rfl
theorem IW:bL Tryz.prog 99=true:=by kernel_rfl
theorem KC:cS Tryz.prog 94=some (99,8,128):=by kernel_rfl
theorem K4:bX Tryz.prog 56=some (Value.agg #[Value.int IntKind.i64 0,Value.int IntKind.i64 0,Value.int IntKind.i64 0,Value.int IntKind.i64 0,Value.int IntKind.i64 0,Value.int IntKind.i64 0,Value.int IntKind.i64 0]):=by kernel_rfl
theorem JE:bL Tryz.prog 54=true:=by kernel_rfl
theorem J0:ap Tryz.prog 54=2:=by kernel_rfl
theorem Jw:dc Tryz.prog 54=some ([(0,1),(1,1)],[Value.int IntKind.i64 0,Value.int IntKind.i64 0]):=by kernel_rfl
theorem Ci:bN Tryz.prog 106 1=some 1:=by kernel_rfl
theorem EK:bN Tryz.prog 56 3=some 5:=by kernel_rfl
theorem A6:bN Tryz.prog 106 2=some 2:=by kernel_rfl
theorem Dy:bN Tryz.prog 56 4=some 6:=by kernel_rfl
theorem D9:bN Tryz.prog 62 1=some 2:=by kernel_rfl
theorem Eg:bN Tryz.prog 62 2=some 3:=by kernel_rfl
theorem Eo:bN Tryz.prog 62 3=some 4:=by kernel_rfl
theorem Iz:oZ Tryz.prog 109=some (9,3):=by kernel_rfl
theorem H1:bX Tryz.prog 154=some (Value.agg #[Value.bool false,Value.int IntKind.i64 0]):=by kernel_rfl
theorem GP:dc Tryz.prog 154=some ([(0,1),(1,1)],[Value.bool false,Value.int IntKind.i64 0]):=by kernel_rfl
theorem Bs:bN Tryz.prog 106 0=some 0:=by kernel_rfl
theorem BD:bN Tryz.prog 106 4=some 4:=by kernel_rfl
theorem Cb:bN Tryz.prog 106 3=some 3:=by kernel_rfl
theorem KK:ww 23=false:=by kernel_rfl
theorem GW:cS Tryz.prog 159=some (60,2,48):=by kernel_rfl
theorem Ef:bN Tryz.prog 60 0=some 0:=by kernel_rfl
theorem JZ:bL Tryz.prog 58=false:=by kernel_rfl
theorem KQ:ap Tryz.prog 58=1:=by kernel_rfl
theorem LO:bf Tryz.prog 58=(128,2):=by kernel_rfl
theorem G8:bL Tryz.prog 128=true:=by kernel_rfl
theorem Ih:ap Tryz.prog 128=2:=by kernel_rfl
theorem HZ:bX Tryz.prog 128=some (Value.agg #[Value.int IntKind.i64 0,Value.int IntKind.i64 0]):=by kernel_rfl
theorem BL:bN Tryz.prog 128 0=some 0:=by kernel_rfl
theorem Bk:bN Tryz.prog 128 1=some 1:=by kernel_rfl
theorem DG:bN Tryz.prog 80 4=some 4:=by kernel_rfl
theorem EL:bN Tryz.prog 60 1=some 1:=by kernel_rfl
theorem KL:bX Tryz.prog 60=some (Value.agg #[Value.slice none 0 0,Value.slice none 0 0]):=by kernel_rfl
theorem Hj:bf Tryz.prog 219=(221,2):=by kernel_rfl
theorem HF:gF Tryz.prog 221=(2,1):=by kernel_rfl
theorem LY:dc Tryz.prog 56=some ([(0,1),(1,2),(3,2),(5,1),(6,1)],[Value.int IntKind.i64 0,Value.int IntKind.i64 0,Value.int IntKind.i64 0,Value.int IntKind.i64 0,Value.int IntKind.i64 0,Value.int IntKind.i64 0,Value.int IntKind.i64 0]):=by kernel_rfl
theorem Lp:cS Tryz.prog 27=some (78,3,40):=by kernel_rfl
theorem J6:cS Tryz.prog 28=some (80,5,64):=by kernel_rfl
theorem Cm:bN Tryz.prog 154 0=some 0:=by kernel_rfl
theorem AH:bN Tryz.prog 154 1=some 1:=by kernel_rfl
theorem Iw:dc Tryz.prog 221=some ([(0,1),(1,1)],[Value.int IntKind.i64 0,Value.int IntKind.i64 0]):=by kernel_rfl
theorem HT:cS Tryz.prog 219=some (221,2,16):=by kernel_rfl
theorem MC:bX Tryz.prog 4=some (Value.bool false):=by kernel_rfl
theorem Mg:bX Tryz.prog 2=some (Value.int IntKind.i64 0):=by kernel_rfl
end
section
def SC (P:Program) (c:Code) (Q:Exit -> aj -> Prop) (st:aj):Prop:=∀ (cx:Cx) (a:Act) (w:World) (L:Nat -> Value),aG cx a w st L -> c.wp P (n8 cx Q) a w
section
variable {P:Program} {x y:Code} {Q Q':Exit -> aj -> Prop} {st st':aj}
theorem ls (hm:P.follows .mixedOrders=true) (h:bD P x Q st):SC P x Q st:=fun cx a w L hc=>uv hm x Q a w st L hc h
theorem SC.mono (h:SC P x Q st) (hq:∀ e st,Q e st -> Q' e st):SC P x Q' st:=fun cx a w L hc=>Code.wp_mono (fun e a w ⟨st',L',h1,h2⟩=>⟨st',L',hq e st' h1,h2⟩) (h cx a w L hc)
theorem SC.weak (hw:eX st st') (h:SC P x Q st'):SC P x Q st:=fun cx a w L hc=>(hw cx a w L hc).elim fun L' hc'=>h cx a w L' hc'.1
theorem LV (h:SC P x (nA (SC P y Q) Q) st):SC P (.seq x y) Q st:=fun cx a w L hc=>
 wp_seq (Code.wp_mono (fun e a' w' ⟨st',L',h1,h2⟩=>by
  cases e with
  | normal=>exact h1 cx a' w' L' h2
  | _=>exact ⟨st',L',h1,h2⟩) (h cx a w L hc))
theorem jN {I:aj -> Prop} (hw:eX st st') (h:I st'):Ni I st:=⟨st',hw,h⟩
theorem jY (I:aj -> Prop) (h:SC P x (nA (Ni I) Q) st) (h2:∀ st,I st -> SC P y Q st):SC P (.seq x y) Q st:=
 LV (h.mono fun e st h=>by
  cases e with
  | normal=>
   obtain ⟨st',hw,hI⟩:=h;exact (h2 st' hI).weak hw
  | _=>exact h)
end
theorem xX {P : Program} {f : FuncId} {fn : Func} {c : Code} (hf : P.funcs[f]? = some fn) (hb : fn.body = some c) (hname : (fn.name == "runtime.NumGoroutine") = false) {args : List AV} {R : cG} {n : Nat} (hnt : fn.ntmps = n) {rs : List ResultVar} (hrs : fn.results = rs.toArray) (hn : Nat.ble args.length n = true)
  (hok:R.Ok) (h:SC P c (Dq P rs R) ⟨n,fl 0 args,[],0⟩):ax P f args R:=rq hf hb hname hnt hrs hn hok h
theorem iK {P:Program} {f:FuncId} {args:List AV} {v:Value} (he:fY P f)
  (h:∀ (S:Nat -> Prop) (w:World) (vs:Array Value),HJ w S -> vs.size=args.length -> (∀ (j:Nat) (v:Value) (av:AV),vs[j]? = some v -> args[j]? = some av -> RT w S v av) -> Calls P f vs w fun e w'=>e=.returned v /\ Below w.heap.size w w'):ax P f args (val v):=
 ⟨he,fun S w vs h1 h2 h3=>(h S w vs h1 h2 h3).mono fun e w' ⟨h4,h5⟩=>⟨v,fun _=>undef,val v,rfl,aH v,h4,⟨qy h5,fun id o h=>(by cases h),fun id id' o o' g h=>(by cases h),fun b hb=>hb.elim⟩,.tree (.c v)⟩⟩
theorem ax.calls {P:Program} {f:FuncId} {args:List AV} {v:Value} (h:ax P f args (val v)) {w:World} {vs:Array Value} (h2:vs.size=args.length) (h3:∀ (j:Nat) (v:Value) (av:AV),vs[j]? = some v -> args[j]? = some av -> RT w (fun b=>b<w.heap.size) v av) (hA:B9 w:=by exact amb_any _) :
  Calls P f vs w fun e w'=>e=.returned v /\ Below w.heap.size w w':=
 (h.2 _ w vs ⟨fun b hb=>hb,hA,fun b hb=>NH hb hA.le⟩ h2 h3).mono fun e w' ⟨v',L,R,h0,_,h4,h5,h6⟩=>by
  subst h0;obtain rfl:=h6.c_inv;exact ⟨h4,h5.below.below fun b hb=>hb⟩
def ic (e:TypeId) (sz:Nat) (rows:List (List AV)):cG:=⟨.osl 0,[(0,some (.row e sz rows))],1⟩
theorem cB (e:TypeId) (sz:Nat) (rows:List (List AV)):(ic e sz rows).Ok:=by
 refine ⟨fun id o h=>?_,PV⟩;simp only [ic,af.gc] at h;split at h
 .rename_i e;cases h;subst e;exact ⟨PV,trivial⟩
 .cases h
theorem aO {e:TypeId} {sz:Nat} {rows:List (List AV)} {st:aj} {id:Nat}:st.tab.get id=some (.row e sz rows) -> dw (ic e sz rows) st (.osl id):=fun h=>
 ⟨[id],by simp,rfl,⟨PV,⟨e,sz,rows,rfl⟩,h⟩,trivial⟩
theorem ca {Post:cG -> Prop} {st:aj} {v:Value} (h:Post (val v)):∃ R,Post R /\ R.Ok /\ dw R st (.c v):=⟨_,h,aH v,sN rfl⟩
theorem qW {Post:cG -> Prop} {st:aj} {id:Nat} {e:TypeId} {sz:Nat} {rows:List (List AV)} (hg:st.tab.get id=some (.row e sz rows)) (h:Post (ic e sz rows)):∃ R,Post R /\ R.Ok /\ dw R st (.osl id):=⟨_,h,cB ..,aO hg⟩
theorem Ar {u:Option (Nat × List Nat)} {P:Program} {st:aj} {g:FuncId} {args:List AV} {K:AV -> aj -> Prop} {Post:cG -> Prop} (h:dn P g (args.map (fE st.tab)) Post) (hk:∀ R,Post R -> (pi args \/ (R.r.plain /\ R.tab.plain)) /\ K (R.r.shift st.next) { st with tab:=R.tab.shift st.next ++ st.tab,next:=st.next+R.n }):gy u P st g args K:=.inl (.inl ⟨Post,h,hk⟩)
theorem qd {u:Option (Nat × List Nat)} {P:Program} {st:aj} {g:FuncId} {args:List AV} {K:AV -> aj -> Prop} {R:cG} (h:ax P g (args.map (fE st.tab)) R) (ho:pi args \/ (R.r.plain /\ R.tab.plain)) (hk:K (R.r.shift st.next) { st with tab:=R.tab.shift st.next ++ st.tab,next:=st.next+R.n }):gy u P st g args K:=
 .inl (.inl ⟨_,h,fun R' e=>by subst e;exact ⟨ho,hk⟩⟩)
theorem aw {u:Option (Nat × List Nat)} {P:Program} {st:aj} {g:FuncId} {args:List AV} {dst:Option Nat} {K:aj -> Prop} {v:Value} (h:ax P g (args.map (fE st.tab)) (val v)) (hk:K (st.put dst (.c v))):gy u P st g args (sa dst K):=
 qd h (.inr ⟨trivial,trivial⟩) hk
def Np:=(And.intro (And.intro (And.intro (And.intro (And.intro (And.intro (And.intro @xt @y6) (And.intro @yo @AK)) (And.intro (And.intro @yD @wn) (And.intro @xT @xr))) (And.intro (And.intro (And.intro @Cy @ub) (And.intro @yO @BC)) (And.intro (And.intro @pe @ua) (And.intro @rM @za)))) (And.intro (And.intro (And.intro (And.intro @Di @KV) (And.intro @MP @LE)) (And.intro (And.intro @J3 @Gw) (And.intro @D1 @CA))) (And.intro (And.intro (And.intro @Cd @BU) (And.intro @Fb @y8)) (And.intro (And.intro @zf @Ch) (And.intro @wo @uN))))) (And.intro (And.intro (And.intro (And.intro (And.intro @xM @uD) (And.intro @rQ @K0)) (And.intro (And.intro @Lj @LG) (And.intro @Lb @Ff))) (And.intro (And.intro (And.intro @AP @A7) (And.intro @x5 @ws)) (And.intro (And.intro @Fj @xW) (And.intro @Fp @EX)))) (And.intro (And.intro (And.intro (And.intro @AW @Bx) (And.intro @G3 @LS)) (And.intro (And.intro @u5 @Hb) (And.intro @xY @CK))) (And.intro (And.intro (And.intro @tG @GC) (And.intro @BR @Bp)) (And.intro (And.intro @p5 @rR) (And.intro @Bu @Bn)))))) (And.intro (And.intro (And.intro (And.intro (And.intro (And.intro @vF @Cv) (And.intro @BP @xH)) (And.intro (And.intro @yB @CQ) (And.intro @G4 @Dc))) (And.intro (And.intro (And.intro @B3 @Cn) (And.intro @yQ @LK)) (And.intro (And.intro @GV @BI) (And.intro @uW @zd)))) (And.intro (And.intro (And.intro (And.intro @wK @Bq) (And.intro @x8 @xA)) (And.intro (And.intro @A9 @vn) (And.intro @tN @tT))) (And.intro (And.intro (And.intro @tr @A2) (And.intro @tw @xd)) (And.intro (And.intro @wP @wm) (And.intro @ui @uC))))) (And.intro (And.intro (And.intro (And.intro (And.intro @zi @Cg) (And.intro @pY @wT)) (And.intro (And.intro @BN @uf) (And.intro @Bw @uH))) (And.intro (And.intro (And.intro @zb @wq) (And.intro @t5 @yU)) (And.intro (And.intro @oe @yN) (And.intro @zl @yh)))) (And.intro (And.intro (And.intro (And.intro @u4 @vy) (And.intro @Bm @Fd)) (And.intro (And.intro @rU @Cj) (And.intro @uV @ug))) (And.intro (And.intro (And.intro @pf @HU) (And.intro @GX @wd)) (And.intro (And.intro @Bh @wi) (And.intro @xC @rT)))))))
def Nl:=(And.intro (And.intro (And.intro (And.intro (And.intro @af.gc (And.intro @Pv @Nat.add_zero)) (And.intro (And.intro @Pq @Pa) (And.intro @O5 @OE))) (And.intro (And.intro (And.intro @Oz @N3) (And.intro @NZ @Ps)) (And.intro (And.intro @List.drop_succ_cons.{0} @List.drop_zero.{0}) (And.intro @List.take_succ_cons.{0} @NJ)))) (And.intro (And.intro (And.intro (And.intro @List.headD_cons.{0} @NI) (And.intro @Bool.not_true @PN)) (And.intro (And.intro @true_and @and_true) (And.intro @NX @OS))) (And.intro (And.intro (And.intro @Pf @OK) (And.intro @Px @PD)) (And.intro (And.intro @AV.c.injEq @Value.bool.injEq) (And.intro @Value.int.injEq @false_implies))))) (And.intro (And.intro (And.intro (And.intro (And.intro @NW @NQ) (And.intro @Pj @Int.ofNat_lt)) (And.intro (And.intro @Int.ofNat_le @Ou) (And.intro @not_false_eq_true @not_true_eq_false))) (And.intro (And.intro (And.intro @Nz @false_and) (And.intro @and_false @Nat.succ_ne_zero)) (And.intro (And.intro @imp_self @true_implies) (And.intro @decide_true @decide_false)))) (And.intro (And.intro (And.intro (And.intro @PQ @PR) (And.intro @Nv @OD)) (And.intro (And.intro @List.not_mem_nil.{0} @or_false) (And.intro @O3 @OG))) (And.intro (And.intro (And.intro @N9 @Option.map_none.{0,0}) (And.intro @Option.isSome_some.{0} @Option.isSome_none.{0})) (And.intro (And.intro @PP @NG) (And.intro @true_or @or_true))))))
def ia:=(And.intro (And.intro (And.intro (And.intro @af.gc @and_true) (And.intro @true_and (And.intro @AV.c.injEq @Value.int.injEq))) (And.intro (And.intro @Value.bool.injEq @Bool.not_true) (And.intro @PN (And.intro @Px @PD)))) (And.intro (And.intro (And.intro @Nat.succ_ne_zero @not_true_eq_false) (And.intro @not_false_eq_true (And.intro @Pj @Oz))) (And.intro (And.intro @N3 (And.intro @OS @Pf)) (And.intro @OK (And.intro @decide_true @decide_false)))))
def HR:=And.intro Np (And.intro Nl (And.intro (And.intro (And.intro (And.intro (And.intro (And.intro (And.intro (And.intro @a5.eq_1 (And.intro @a5.eq_2 @a5.eq_3)) (And.intro (And.intro @a5.eq_4 @mF.eq_1) (And.intro @ji.eq_1 @ji.eq_2))) (And.intro (And.intro (And.intro @ji.eq_3 @l8.eq_1) (And.intro @ib.eq_1 @ib.eq_2)) (And.intro (And.intro @ib.eq_3 @ib.eq_4) (And.intro @ib.eq_5 @p7.eq_1)))) (And.intro (And.intro (And.intro @p7.eq_2 (And.intro @p7.eq_3 @p7.eq_4)) (And.intro (And.intro @p7.eq_5 @tE.eq_1) (And.intro @tE.eq_2 @tE.eq_3))) (And.intro (And.intro (And.intro @tE.eq_4 @eM.eq_1) (And.intro @eM.eq_2 @eM.eq_3)) (And.intro (And.intro @eM.eq_4 @eM.eq_5) (And.intro @eM.eq_6 @eM.eq_7))))) (And.intro (And.intro (And.intro (And.intro @eM.eq_8 (And.intro @eM.eq_9 @eM.eq_10)) (And.intro (And.intro @eM.eq_11 @eM.eq_12) (And.intro @eM.eq_13 @eM.eq_14))) (And.intro (And.intro (And.intro @eM.eq_15 @eM.eq_16) (And.intro @eM.eq_17 @eM.eq_18)) (And.intro (And.intro @eM.eq_19 @eM.eq_20) (And.intro @eM.eq_21 @eM.eq_22)))) (And.intro (And.intro (And.intro (And.intro @eM.eq_23 @eM.eq_24) (And.intro @eM.eq_25 @eM.eq_26)) (And.intro (And.intro @eM.eq_27 @eM.eq_28) (And.intro @Kk.eq_1 @Kk.eq_2))) (And.intro (And.intro (And.intro @IJ.eq_1 @IJ.eq_2) (And.intro @IJ.eq_3 @IJ.eq_4)) (And.intro (And.intro @IJ.eq_5 @jb.eq_1) (And.intro @jb.eq_2 @aj.get.eq_1)))))) (And.intro (And.intro (And.intro (And.intro (And.intro @aX.eq_1 (And.intro @aX.eq_2 @aj.put.eq_1)) (And.intro (And.intro @aj.put.eq_2 @oC.eq_1) (And.intro @oC.eq_2 @wN.eq_1))) (And.intro (And.intro (And.intro @jg.eq_1 @dp.eq_1) (And.intro @j6.eq_1 @qg.eq_1)) (And.intro (And.intro @qg.eq_2 @iU.eq_1) (And.intro @iU.eq_2 @qu.eq_1)))) (And.intro (And.intro (And.intro @qu.eq_2 (And.intro @qu.eq_3 @zS.eq_1)) (And.intro (And.intro @zS.eq_2 @yv.eq_1) (And.intro @yv.eq_2 @am.eq_1))) (And.intro (And.intro (And.intro @am.eq_2 @am.eq_3) (And.intro @qN.eq_1 @qN.eq_2)) (And.intro (And.intro @qN.eq_3 @qN.eq_4) (And.intro @qN.eq_5 @qN.eq_6))))) (And.intro (And.intro (And.intro (And.intro @qN.eq_7 (And.intro @qN.eq_8 @dB.eq_1)) (And.intro (And.intro @dB.eq_2 @dk.eq_1) (And.intro @dk.eq_2 @dk.eq_3))) (And.intro (And.intro (And.intro @dk.eq_4 @dk.eq_5) (And.intro @dk.eq_6 @dk.eq_7)) (And.intro (And.intro @bV.eq_1 @bV.eq_2) (And.intro @iH.eq_1 @iH.eq_2)))) (And.intro (And.intro (And.intro (And.intro @HX @FA) (And.intro @vh.eq_1 @vh.eq_2)) (And.intro (And.intro @uI.eq_1 @uI.eq_2) (And.intro @uI.eq_3 @wW.eq_1))) (And.intro (And.intro (And.intro @wW.eq_2 @wW.eq_3) (And.intro @wW.eq_4 @bw.eq_1)) (And.intro (And.intro @bw.eq_2 @Go.Value.cells.eq_1) (And.intro @Go.Value.cells.eq_2 @Go.Value.oneCell'.eq_1))))))) (And.intro (And.intro (And.intro (And.intro (And.intro (And.intro @Go.Value.oneCell'.eq_2 (And.intro @Go.Value.oneCell'.eq_3 @fl.eq_1)) (And.intro (And.intro @fl.eq_2 @da.eq_1) (And.intro @da.eq_2 @da.eq_3))) (And.intro (And.intro (And.intro @jj.eq_1 @jj.eq_2) (And.intro @fE.eq_1 @fE.eq_2)) (And.intro (And.intro @fE.eq_3 @fE.eq_4) (And.intro @fE.eq_5 @fE.eq_6)))) (And.intro (And.intro (And.intro @fE.eq_7 (And.intro @fE.eq_8 @fE.eq_9)) (And.intro (And.intro @fE.eq_10 @fh.eq_1) (And.intro @fh.eq_2 @fh.eq_3))) (And.intro (And.intro (And.intro @fh.eq_4 @fh.eq_5) (And.intro @fh.eq_6 @fh.eq_7)) (And.intro (And.intro @fh.eq_8 @fh.eq_9) (And.intro @fh.eq_10 @gm.eq_1))))) (And.intro (And.intro (And.intro (And.intro @gm.eq_2 (And.intro @gm.eq_3 @gm.eq_4)) (And.intro (And.intro @gm.eq_5 @gm.eq_6) (And.intro @gm.eq_7 @gm.eq_8))) (And.intro (And.intro (And.intro @gm.eq_9 @gm.eq_10) (And.intro @yP.eq_1 @yP.eq_2)) (And.intro (And.intro @mv.eq_1 @qX.eq_1) (And.intro @qX.eq_2 @oq.eq_1)))) (And.intro (And.intro (And.intro (And.intro @oq.eq_2 @tJ.eq_1) (And.intro @tJ.eq_2 @uY.eq_1)) (And.intro (And.intro @uY.eq_2 @uY.eq_3) (And.intro @tL.eq_1 @tL.eq_2))) (And.intro (And.intro (And.intro @g9.eq_1 @g9.eq_2) (And.intro @fu.eq_1 @Mb.eq_1)) (And.intro (And.intro @Mb.eq_2 @kh.eq_1) (And.intro @kh.eq_2 @kh.eq_3)))))) (And.intro (And.intro (And.intro (And.intro (And.intro @oX.eq_1 (And.intro @oX.eq_2 @oO.eq_1)) (And.intro (And.intro @oO.eq_2 @mu.eq_1) (And.intro @mu.eq_2 @mu.eq_3))) (And.intro (And.intro (And.intro @mu.eq_4 @mu.eq_5) (And.intro @l7.eq_1 @l7.eq_2)) (And.intro (And.intro @l7.eq_3 @l7.eq_4) (And.intro @gt.eq_1 @gt.eq_2)))) (And.intro (And.intro (And.intro @fU.eq_1 (And.intro @fN.eq_1 @fN.eq_2)) (And.intro (And.intro @fN.eq_3 @AV.frz.eq_1) (And.intro @AV.frz.eq_2 @AV.frz.eq_3))) (And.intro (And.intro (And.intro @AV.frz.eq_4 @AV.frz.eq_5) (And.intro @AV.frz.eq_6 @AV.frz.eq_7)) (And.intro (And.intro @AV.frz.eq_8 @AV.frz.eq_9) (And.intro @AV.frz.eq_10 @AV.frzL.eq_1))))) (And.intro (And.intro (And.intro (And.intro @AV.frzL.eq_2 (And.intro @eY.eq_1 @eY.eq_2)) (And.intro (And.intro @AV.shift.eq_1 @AV.shift.eq_2) (And.intro @AV.shift.eq_3 @AV.shift.eq_4))) (And.intro (And.intro (And.intro @AV.shift.eq_5 @AV.shift.eq_6) (And.intro @AV.shift.eq_7 @AV.shift.eq_8)) (And.intro (And.intro @AV.shift.eq_9 @AV.shift.eq_10) (And.intro @AV.shiftL.eq_1 @AV.shiftL.eq_2)))) (And.intro (And.intro (And.intro (And.intro @pG.eq_1 @jK.eq_1) (And.intro @jK.eq_2 @mQ.eq_1)) (And.intro (And.intro @mQ.eq_2 @kk.eq_1) (And.intro @kk.eq_2 @kk.eq_3))) (And.intro (And.intro (And.intro @pu.eq_1 @pu.eq_2) (And.intro @pC.eq_1 @pC.eq_2)) (And.intro (And.intro @CF.eq_1 @CF.eq_2) (And.intro @CF.eq_3 @AU.eq_1)))))))) (And.intro (And.intro (And.intro (And.intro (And.intro (And.intro (And.intro @AU.eq_2 (And.intro @AU.eq_3 @iL.eq_1)) (And.intro (And.intro @iL.eq_2 @sS.eq_1) (And.intro @bE.eq_1 @bE.eq_2))) (And.intro (And.intro (And.intro @aE.frz.eq_1 @aE.frz.eq_2) (And.intro @aE.frz.eq_3 @aE.frz.eq_4)) (And.intro (And.intro @aE.frz.eq_5 @IQ.eq_1) (And.intro @IQ.eq_2 @uQ.eq_1)))) (And.intro (And.intro (And.intro @uQ.eq_2 (And.intro @uQ.eq_3 @rj.eq_1)) (And.intro (And.intro @CR.eq_1 @CR.eq_2) (And.intro @CR.eq_3 @sv.eq_1))) (And.intro (And.intro (And.intro @sv.eq_2 @nZ.eq_1) (And.intro @nZ.eq_2 @jB.eq_1)) (And.intro (And.intro @jB.eq_2 @iv.eq_1) (And.intro @iv.eq_2 @pp.eq_1))))) (And.intro (And.intro (And.intro (And.intro @pp.eq_2 (And.intro @tn.eq_1 @tn.eq_2)) (And.intro (And.intro @tn.eq_3 @kD.eq_1) (And.intro @kD.eq_2 @false_or))) (And.intro (And.intro (And.intro @F4.eq_1 @F4.eq_2) (And.intro @Ei.eq_def @o6.eq_def)) (And.intro (And.intro @zk.eq_def @eq_self.{1}) (And.intro @ne_eq.{1} @implies_true.{1})))) (And.intro (And.intro (And.intro (And.intro @implies_true.{0} @forall_const.{1}) (And.intro @forall_const.{0} @Lo)) (And.intro (And.intro @I3 @LL) (And.intro @Md @KI))) (And.intro (And.intro (And.intro @K1 @Jm) (And.intro @Kc @La)) (And.intro (And.intro @Lv @Ls) (And.intro @I1 @Jo)))))) (And.intro (And.intro (And.intro (And.intro (And.intro @Gp (And.intro @My @MK)) (And.intro (And.intro @DJ @Lh) (And.intro @Kh @Jj))) (And.intro (And.intro (And.intro @Lr @Jb) (And.intro @Ko @I2)) (And.intro (And.intro @LM @MH) (And.intro @KF @MW)))) (And.intro (And.intro (And.intro @Je (And.intro @JD @KY)) (And.intro (And.intro @KX @Lm) (And.intro @Mj @KG))) (And.intro (And.intro (And.intro @FJ @K2) (And.intro @JI @Ky)) (And.intro (And.intro @JK @Ez) (And.intro @K3 @Jc))))) (And.intro (And.intro (And.intro (And.intro @JU (And.intro @Er @Ly)) (And.intro (And.intro @Lz @JL) (And.intro @C9 @J2))) (And.intro (And.intro (And.intro @JQ @I6) (And.intro @C8 @JV)) (And.intro (And.intro @KM @Ja) (And.intro @CP @Kf)))) (And.intro (And.intro (And.intro (And.intro @LB @K8) (And.intro @Dt @C0)) (And.intro (And.intro @Ld @I0) (And.intro @Jk @Ej))) (And.intro (And.intro (And.intro @LA @Ln) (And.intro @I9 @CN)) (And.intro (And.intro @J9 @KE) (And.intro @I4 @EG))))))) (And.intro (And.intro (And.intro (And.intro (And.intro (And.intro @LT (And.intro @Km @CW)) (And.intro (And.intro @J1 @I5) (And.intro @FW @EZ))) (And.intro (And.intro (And.intro @Ks @Jy) (And.intro @Ke @Kv)) (And.intro (And.intro @JR @KH) (And.intro @C6 @DT)))) (And.intro (And.intro (And.intro @FV (And.intro @Iy @Kn)) (And.intro (And.intro @JS @Kb) (And.intro @K7 @Kd))) (And.intro (And.intro (And.intro @L4 @A3) (And.intro @Kz @D6)) (And.intro (And.intro @JX @JN) (And.intro @GO @Jt))))) (And.intro (And.intro (And.intro (And.intro @Jd (And.intro @KD @Mn)) (And.intro (And.intro @Jq @DI) (And.intro @Lg @ID))) (And.intro (And.intro (And.intro @JM @JA) (And.intro @Ka @LJ)) (And.intro (And.intro @Cq @Av) (And.intro @KO @LP)))) (And.intro (And.intro (And.intro (And.intro @Jl @FM) (And.intro @Fo @JO)) (And.intro (And.intro @Ki @Lt) (And.intro @Fm @EO))) (And.intro (And.intro (And.intro @JJ @KS) (And.intro @Kp @EE)) (And.intro (And.intro @Es @BS) (And.intro @BB @FL)))))) (And.intro (And.intro (And.intro (And.intro (And.intro @Jp (And.intro @GE @GR)) (And.intro (And.intro @Dk @DW) (And.intro @FH @MJ))) (And.intro (And.intro (And.intro @Me @FY) (And.intro @Mp @Hu)) (And.intro (And.intro @Ip @E6) (And.intro @HV @G0)))) (And.intro (And.intro (And.intro (And.intro @Lq @K6) (And.intro @JT @IW)) (And.intro (And.intro @KC @K4) (And.intro @JE @J0))) (And.intro (And.intro (And.intro @Jw @Ci) (And.intro @EK @A6)) (And.intro (And.intro @Dy @D9) (And.intro @Eg @Eo))))) (And.intro (And.intro (And.intro (And.intro @Iz (And.intro @H1 @GP)) (And.intro (And.intro @Bs @BD) (And.intro @Cb @KK))) (And.intro (And.intro (And.intro @GW @Ef) (And.intro @JZ @KQ)) (And.intro (And.intro @LO @G8) (And.intro @Ih @HZ)))) (And.intro (And.intro (And.intro (And.intro @BL @Bk) (And.intro @DG @EL)) (And.intro (And.intro @KL @Hj) (And.intro @HF @LY))) (And.intro (And.intro (And.intro @Lp @J6) (And.intro @Cm @AH)) (And.intro (And.intro @Iw @HT) (And.intro @MC @Mg))))))))))
theorem kf {a b:Prop} (x:a) (y:b):a /\ b:=⟨x,y⟩
theorem go {a b:Prop} (hb:b) (h:a=b:=by simp -implicitDefEqProofs (maxSteps:=5000000) only [HR,↓reduceIte,reduceCtorEq,Nat.reduceLT,Nat.reduceEqDiff,Nat.reduceAdd,Nat.reduceMul,Nat.reduceSub,Nat.reduceLeDiff,Nat.reduceBEq]<;>exact rfl):a:=Eq.mpr h hb
theorem ge {E a b:Prop} (e:E) (hb:b) (h:E -> a=b:=by intro e;simp -implicitDefEqProofs (maxSteps:=5000000) only [HR,↓reduceIte,reduceCtorEq,Nat.reduceLT,Nat.reduceEqDiff,Nat.reduceAdd,Nat.reduceMul,Nat.reduceSub,Nat.reduceLeDiff,Nat.reduceBEq,e]<;>exact rfl):a:=Eq.mpr (h e) hb
theorem gq {a b:Prop} (hb:b) (h:b -> a:=by first|with_reducible exact aA (by kernel_rfl)|exact Eq.mpr (by simp -implicitDefEqProofs (maxSteps:=5000000) only [HR,↓reduceIte,reduceCtorEq,Nat.reduceLT,Nat.reduceEqDiff,Nat.reduceAdd,Nat.reduceMul,Nat.reduceSub,Nat.reduceLeDiff,Nat.reduceBEq]<;>exact rfl)):a:=h hb
theorem gf {E a b:Prop} (e:E) (hb:b) (h:E -> b -> a:=by intro e;first|with_reducible exact aA (by kernel_rfl)|exact Eq.mpr (by simp -implicitDefEqProofs (maxSteps:=5000000) only [HR,↓reduceIte,reduceCtorEq,Nat.reduceLT,Nat.reduceEqDiff,Nat.reduceAdd,Nat.reduceMul,Nat.reduceSub,Nat.reduceLeDiff,Nat.reduceBEq,e]<;>exact rfl)):a:=h e hb
theorem cA {p a b:Prop} (x:a) (y:b) (h:a -> b -> p:=by intro x y;first|((with_reducible apply aw);exact x;exact y)|((with_reducible apply aL);exact x;exact y)|((with_reducible apply bI);exact x;exact .inl (by simp [pi,yS,bV,dk]);exact y)):p:=h x y
theorem ro {p q:Prop} (h:p:=by simp [pi,yS,bV,dk]):p \/ q:=.inl h
theorem sp {p a b:Prop} (ha:a) (hb:b) (h:a -> b -> p:=by with_reducible first|exact i8|exact ze|exact sb):p:=h ha hb
theorem wC {st:aj} {n nx:Nat} {env:List (Nat × AV)} {tab:af} (h:st.n=n /\ (ku st env /\ ky st tab) /\ cT nx env /\ cr nx tab:=by (first|((simp only [ku,ky,cT,cr,aE.lt,AV.lt,AV.ltL,ia,aj.get,aX,aj.put,↓reduceIte,reduceCtorEq,Nat.reduceLT,Nat.reduceEqDiff,Nat.reduceAdd,Nat.reduceLeDiff,eq_self,implies_true])<;>(repeat' apply And.intro)<;>first|(rw [mD (by omega)];done)|(simp;done)|omega)|fail)):eX st ⟨n,env,tab,nx⟩:=gP h
theorem wE {st:aj} {n nx:Nat} {env:List (Nat × AV)} {tab:af} {E:Prop} (e:E) (h:E -> st.n=n /\ (ku st env /\ ky st tab) /\ cT nx env /\ cr nx tab:=by intro e;(first|((simp only [ku,ky,cT,cr,aE.lt,AV.lt,AV.ltL,ia,aj.get,aX,aj.put,↓reduceIte,reduceCtorEq,Nat.reduceLT,Nat.reduceEqDiff,Nat.reduceAdd,Nat.reduceLeDiff,eq_self,implies_true,e])<;>(repeat' apply And.intro)<;>first|(rw [mD (by omega)];done)|(simp;done)|omega)|fail)):eX st ⟨n,env,tab,nx⟩:=gP (h e)
theorem wR {st:aj} {n nx:Nat} {env:List (Nat × AV)} {tab:af} (ids:List Nat) (h0:ids.Nodup:=by decide) (h:st.n=n /\ (iE st ids env /\ gZ st ids tab) /\ cT nx env /\ cr nx tab:=by (first|((simp only [iE,gZ,cT,cr,aE.lt,AV.lt,AV.ltL,AV.ren,AV.renL,aE.ren,PK,List.getD_cons_succ,NZ,Ps,ia,aj.get,aX,aj.put,↓reduceIte,reduceCtorEq,Nat.reduceLT,Nat.reduceEqDiff,Nat.reduceAdd,Nat.reduceLeDiff,eq_self,implies_true])<;>(repeat' apply And.intro)<;>first|(rw [mD (by omega)];done)|(simp;done)|omega)|fail)):eX st ⟨n,env,tab,nx⟩:=kI ids ⟨h0,h⟩
theorem wS {st:aj} {n nx:Nat} {env:List (Nat × AV)} {tab:af} {E:Prop} (ids:List Nat) (e:E) (h0:ids.Nodup:=by decide) (h:E -> st.n=n /\ (iE st ids env /\ gZ st ids tab) /\ cT nx env /\ cr nx tab:=by intro e;(first|((simp only [iE,gZ,cT,cr,aE.lt,AV.lt,AV.ltL,AV.ren,AV.renL,aE.ren,PK,List.getD_cons_succ,NZ,Ps,ia,aj.get,aX,aj.put,↓reduceIte,reduceCtorEq,Nat.reduceLT,Nat.reduceEqDiff,Nat.reduceAdd,Nat.reduceLeDiff,eq_self,implies_true,e])<;>(repeat' apply And.intro)<;>first|(rw [mD (by omega)];done)|(simp;done)|omega)|fail)):eX st ⟨n,env,tab,nx⟩:=kI ids ⟨h0,h e⟩
theorem rI {I:aj -> Prop} {μ:aj -> Nat} {n:Nat} {st st':aj} (hw:eX st st') (hI:I st') (hm:μ st'<n:=by simp only [aq,ia,aj.get,aX,aj.put,↓reduceIte,reduceCtorEq,Nat.reduceLT,Nat.reduceEqDiff,Nat.reduceAdd,Nat.reduceLeDiff,eq_self,implies_true];omega):qn I μ n st:=fa hw hI hm
end
section
theorem jc {P : Program} {f : FuncId} {fn : Func} {c : Code} (hf : P.funcs[f]? = some fn) (hb : fn.body = some c) (hname : (fn.name == "runtime.NumGoroutine") = false) : fY P f := fun args w => by
 have : ¬ fn.name = "runtime.NumGoroutine" := by simpa using hname
 simp [callFunc,Sem.run_bind,hf,this,hb]
theorem L8 {w:World} {S:Nat -> Prop} {v u:Value} (h:RT w S v (.c u)):v=u:=by cases h;rfl
theorem B7 {tab:af} {a:AV} (h:dk a):fE tab a=a:=by
 cases a<;>first|rfl|exact h.elim
theorem qb {tab:af}:∀ {l:List AV},bV l -> l.map (fE tab)=l
 | [],_=>rfl
 | a :: l,h=>by rw [Oz,B7 h.1,qb h.2]
theorem oW {tab:af}:∀ {l:List AV},bV l -> l.map (gm tab)=l
 | [],_=>rfl
 | a :: l,h=>by
  have h1:gm tab a=a:=by
   have:=h.1;cases a<;>first|rfl|exact this.elim
  rw [Oz,h1,oW h.2]
theorem wu {nx:Nat}:∀ {l:List AV},bV l -> AV.ltL nx l
 | [],_=>trivial
 | a :: l,h=>⟨by
   have:=h.1;cases a<;>first|trivial|exact this.elim,wu h.2⟩
theorem Il {u:Option (Nat × List Nat)} {P:Program} {st:aj} {g:FuncId} {args caps:List AV} {dst:Option Nat} {K:aj -> Prop} {v:Value} (ht:bV caps) (h:ax P g (args.map (fE st.tab) ++ caps) (val v)) (hk:K (st.put dst (.c v))):gy u P st g (args ++ caps) (sa dst K):=
 aw (by rw [OB,qb ht];exact h) hk
theorem bI {u:Option (Nat × List Nat)} {P:Program} {st:aj} {g:FuncId} {args:List AV} {K:AV -> aj -> Prop} {r:AV} (h:ax P g (args.map (fE st.tab)) ⟨r,[],0⟩) (ho:pi args \/ r.plain) (hk:K (r.shift st.next) st):gy u P st g args K:=
 qd h (ho.imp id fun h=>⟨h,trivial⟩) hk
theorem eh {α β:Type} (f:α -> β) (l:List α) {k:Nat} (h:k<l.length):(l.take (k+1)).map f=(l.take k).map f ++ [f l[k]]:=by
 rw [PI,Nq h,OB];rfl
theorem ce {u:Option (Nat × List Nat)} {P:Program} {st:aj} {g:FuncId} {args:List AV} {K:AV -> aj -> Prop} {e:TypeId} {sz:Nat} {rows:List (List AV)} (h:ax P g (args.map (fE st.tab)) (ic e sz rows)) (ho:pi args \/ ∀ row ∈ rows,∀ av ∈ row,av.plain) (hk:K (.osl st.next) ⟨st.n,st.env,(st.next,some (.row e sz rows)) :: st.tab,st.next+1⟩):gy u P st g args K:=
 qd h (ho.imp id fun h=>⟨trivial,h,trivial⟩) (by
  have e1:(ic e sz rows).r.shift st.next=.osl st.next:=by simp [ic,AV.shift]
  have e2:(ic e sz rows).tab.shift st.next=[(st.next,some (.row e sz rows))]:=by simp [ic,af.shift,aE.shift]
  rw [e1,e2];exact hk)
theorem dT {l:List Int}:∀ row ∈ l.map (fun n=>[eI n]),∀ av ∈ row,av.plain:=fun row hr av ha=>by
 obtain ⟨n,_,rfl⟩:=NC.1 hr;simp at ha;subst ha;trivial
theorem Bd {α β:Type} (f:β -> α -> β) (b:β) (l:List α) {k:Nat} (h:k<l.length):(l.take (k+1)).foldl f b=f ((l.take k).foldl f b) l[k]:=by
 rw [PI,Nq h,OI];rfl
inductive oU:AV -> AV -> Prop
 | refl (a:AV):oU a a
 | nil (sz:Nat):oU (.c (.slice none 0 0)) (.sl sz [])
def n6:List AV -> List AV -> Prop
 | [],[]=>True
 | a :: l,b :: l'=>oU a b /\ n6 l l'
 | _,_=>False
def mB:List (List AV) -> List (List AV) -> Prop
 | [],[]=>True
 | a :: l,b :: l'=>n6 a b /\ mB l l'
 | _,_=>False
inductive oJ:AV -> AV -> Prop
 | refl (a:AV):oJ a a
 | nil (sz:Nat):oJ (.c (.slice none 0 0)) (.sl sz [])
 | rows {sz:Nat} {r r':List (List AV)} (h:mB r r'):oJ (.sl sz r) (.sl sz r')
def uR:List AV -> List AV -> Prop
 | [],[]=>True
 | a :: l,b :: l'=>oJ a b /\ uR l l'
 | _,_=>False
inductive rd:AV -> AV -> Prop
 | one {a b:AV} (h:oJ a b):rd a b
 | agg {l l':List AV} (h:uR l l'):rd (.agg l) (.agg l')
def ow:List AV -> List AV -> Prop
 | [],[]=>True
 | a :: l,b :: l'=>rd a b /\ ow l l'
 | _,_=>False
theorem oU.rt {w:World} {S:Nat -> Prop} {v:Value} {a b:AV} (h:oU a b) (hr:RT w S v a):RT w S v b:=by
 cases h with
 | refl=>exact hr
 | nil sz=>
  rw [L8 hr];exact .sl none 0 0 sz [] 0 0 (fun _ _=>undef) rfl (Nz _) (by omega) (fun h=>by omega) (by simp) (fun h=>by omega) (by simp) (by simp)
theorem n6.spec:∀ {l l':List AV},n6 l l' -> l.length=l'.length /\ ∀ (j:Nat) (b:AV),l'[j]? = some b -> ∃ a,l[j]? = some a /\ oU a b
 | [],[],_=>⟨rfl,fun j b h=>by simp at h⟩
 | a :: l,b :: l',h=>by
  obtain ⟨h1,h2⟩:=n6.spec h.2;refine ⟨by simp [h1],fun j b' h3=>?_⟩
  cases j with
  | zero=>
   simp at h3;subst h3;exact ⟨a,rfl,h.1⟩
  | succ j=>exact h2 j b' (by simpa using h3)
 | [],_ :: _,h=>h.elim
 | _ :: _,[],h=>h.elim
theorem mB.spec:∀ {l l':List (List AV)},mB l l' -> l.length=l'.length /\ ∀ (j:Nat) (b:List AV),l'[j]? = some b -> ∃ a,l[j]? = some a /\ n6 a b
 | [],[],_=>⟨rfl,fun j b h=>by simp at h⟩
 | a :: l,b :: l',h=>by
  obtain ⟨h1,h2⟩:=mB.spec h.2;refine ⟨by simp [h1],fun j b' h3=>?_⟩
  cases j with
  | zero=>
   simp at h3;subst h3;exact ⟨a,rfl,h.1⟩
  | succ j=>exact h2 j b' (by simpa using h3)
 | [],_ :: _,h=>h.elim
 | _ :: _,[],h=>h.elim
theorem oJ.rt {w:World} {S:Nat -> Prop} {v:Value} {a b:AV} (h:oJ a b) (hr:RT w S v a):RT w S v b:=by
 cases h with
 | refl=>exact hr
 | nil sz=>exact (oU.nil sz).rt hr
 | rows h=>
  rename_i sz r r';obtain ⟨hl,hx⟩:=h.spec
  cases hr with
  | sl A n cap sz rows b o U hn hc hm hA hs hcell hone hr=>
   have key:∀ i j row' av',r'[i]? = some row' -> row'[j]? = some av' -> ∃ row av,r[i]? = some row /\ row[j]? = some av /\ oU av av':=fun i j row' av' h1 h2=>by
    obtain ⟨row,h3,h4⟩:=hx i row' h1;obtain ⟨av,h5,h6⟩:=h4.spec.2 j av' h2;exact ⟨row,av,h3,h5,h6⟩
   refine .sl A n cap sz r' b o U (hn.trans hl) hc hm hA (fun row' hrow=>?_) (fun h0 i j row' av' h1 h2=>?_) (fun i j row' av' h1 h2=>?_) (fun i j row' av' h1 h2=>?_)
   .obtain ⟨i,hi⟩:=OA hrow;obtain ⟨row,h3,h4⟩:=hx i row' hi;rw [<- h4.spec.1];exact hs row (Nr h3)
   .obtain ⟨row,av,h3,h4,_⟩:=key i j row' av' h1 h2;exact hcell h0 i j row av h3 h4
   .obtain ⟨row,av,h3,h4,_⟩:=key i j row' av' h1 h2;exact hone i j row av h3 h4
   .obtain ⟨row,av,h3,h4,h5⟩:=key i j row' av' h1 h2;exact h5.rt (hr i j row av h3 h4)
theorem uR.spec:∀ {l l':List AV},uR l l' -> l.length=l'.length /\ ∀ (j:Nat) (a b:AV),l[j]? = some a -> l'[j]? = some b -> oJ a b
 | [],[],_=>⟨rfl,fun j a b h=>by simp at h⟩
 | a :: l,b :: l',h=>by
  obtain ⟨h1,h2⟩:=uR.spec h.2;refine ⟨by simp [h1],fun j a' b' h3 h4=>?_⟩
  cases j with
  | zero=>
   simp at h3 h4;subst h3 h4;exact h.1
  | succ j=>exact h2 j a' b' (by simpa using h3) (by simpa using h4)
 | [],_ :: _,h=>h.elim
 | _ :: _,[],h=>h.elim
theorem rd.rt {w:World} {S:Nat -> Prop} {v:Value} {a b:AV} (h:rd a b) (hr:RT w S v a):RT w S v b:=by
 cases h with
 | one h=>exact h.rt hr
 | agg h=>
  obtain ⟨hl,hx⟩:=h.spec
  cases hr with
  | agg xs cs hn hc=>
   refine .agg xs _ (hn.trans hl) fun j x av h1 h2=>?_;rename_i l l';have hj:j<l'.length:=(Nw.1 h2).1;obtain ⟨a,ha⟩:∃ a,l[j]? = some a:=⟨_,Nq (by omega)⟩;exact (hx j a av ha h2).rt (hc j x a h1 ha)
theorem ow.spec:∀ {l l':List AV},ow l l' -> l.length=l'.length /\ ∀ (j:Nat) (a b:AV),l[j]? = some a -> l'[j]? = some b -> rd a b
 | [],[],_=>⟨rfl,fun j a b h=>by simp at h⟩
 | a :: l,b :: l',h=>by
  obtain ⟨h1,h2⟩:=ow.spec h.2;refine ⟨by simp [h1],fun j a' b' h3 h4=>?_⟩
  cases j with
  | zero=>
   simp at h3 h4;subst h3 h4;exact h.1
  | succ j=>exact h2 j a' b' (by simpa using h3) (by simpa using h4)
 | [],_ :: _,h=>h.elim
 | _ :: _,[],h=>h.elim
theorem ax.fits {P:Program} {f:FuncId} {args args':List AV} {R:cG} (h:ax P f args' R) (hf:ow args args'):ax P f args R:=
 ⟨h.1,fun S w vs h1 h2 h3=>h.2 S w vs h1 (h2.trans hf.spec.1) fun j v av h4 h5=>by
  have hj:j<args'.length:=(Nw.1 h5).1;obtain ⟨a,ha⟩:∃ a,args[j]? = some a:=⟨_,Nq (by rw [hf.spec.1];exact hj)⟩;exact (hf.spec.2 j a av ha h5).rt (h3 j v a h4 ha)⟩
theorem gA {u:Option (Nat × List Nat)} {P:Program} {st:aj} {g:FuncId} {args:List AV} {dst:Option Nat} {K:aj -> Prop} {Q:Bool -> Prop} (h:dn P g (args.map (fE st.tab)) fun R=>∃ b,R=val (.bool b) /\ Q b) (hk:∀ b,Q b -> K (st.put dst (.c (.bool b)))):gy u P st g args (sa dst K):=
 Ar h fun R ⟨b,hR,hq⟩=>by subst hR;exact ⟨.inr ⟨trivial,trivial⟩,hk b hq⟩
section
variable {P:Program} {w:World} {d:Nat} {xs ys:Array Value} {f:Field} {fs:List Field}
theorem EB {x y : Value} {b : Bool} {u : TypeDesc} (hn : f.name ≠ "_") (hu : P.underlying f.type = some u) (hs : ∀ fs, u ≠ .struct fs) (ha : ∀ n e, u ≠ .array n e) (hx : xs[f.offset]? = some x) (hy : ys[f.offset]? = some y) (he : (Op.equalIn d f.type x y).run P w = .ok b w) : (Op.eqFields d xs ys (f :: fs)).run P w = if b = true then (Op.eqFields d xs ys fs).run P w else .ok false w := by
 have hp:∀ (zs:Array Value) (z:Value),zs[f.offset]? = some z -> (part f.type zs f.offset).run P w=.ok z w:=fun zs z hz=>by
  simp only [part,Sem.run_bind,isAgg,run_underlying hu,Result.andThen_ok]
  cases u with
  | struct fs=>exact absurd rfl (hs fs)
  | array n e=>exact absurd rfl (ha n e)
  | _=>simp [hz]
 simp only [Op.eqFields,hn,ne_eq,not_false_eq_true,if_true,Sem.run_bind,hp xs x hx,hp ys y hy,Result.andThen_ok,he];cases b<;>simp
def qa:Value -> Value -> Option Bool
 | .bool a,.bool b=>some (a == b)
 | .int k a,.int k' b=>if k=k' then some (a == b) else none
 | .string a,.string b=>some (a == b)
 | _,_=>none
def tf (P:Program) (t:TypeId):Value -> Bool
 | .bool _=>match P.underlying t with | some .bool=>true | _=>false
 | .int k _=>match P.underlying t with | some (.int _)=>true | _=>false
 | .string _=>match P.underlying t with | some .string=>true | _=>false
 | _=>false
theorem GG {t:TypeId} {x y:Value} {b:Bool} (h:qa x y=some b) (hx:tf P t x=true):(Op.equalIn (d+1) t x y).run P w=.ok b w /\ ∃ u,P.underlying t=some u /\ (∀ fs,u ≠ .struct fs) /\ ∀ n e,u ≠ .array n e:=by
 cases x<;>cases y<;>simp [qa] at h;all_goals (unfold tf at hx;simp only at hx;split at hx)
 all_goals try cases hx
 .rename_i hu;exact ⟨by simp [Op.equalIn,run_underlying hu,h],_,hu,by simp,by simp⟩
 .rename_i hu;obtain ⟨rfl,rfl⟩:=h;exact ⟨by simp [Op.equalIn,run_underlying hu],_,hu,by simp,by simp⟩
 .rename_i hu;exact ⟨by simp [Op.equalIn,run_underlying hu,h],_,hu,by simp,by simp⟩
def ld:List (Value × Value) -> Option Bool
 | []=>some true
 | (x,y) :: l=>match qa x y,ld l with
  | some b,some c=>some (b && c)
  | _,_=>none
theorem sy : ∀ (fs : List Field) (l : List (Value × Value)) (b : Bool), fs.length = l.length → (∀ (k : Nat) (f : Field) (p : Value × Value), fs[k]? = some f → l[k]? = some p → f.name ≠ "_" ∧ tf P f.type p.1 = true ∧ xs[f.offset]? = some p.1 ∧ ys[f.offset]? = some p.2) → ld l = some b → (Op.eqFields (d + 1) xs ys fs).run P w = .ok b w
 | [],[],b,_,_,h=>by
  cases h;simp [Op.eqFields]
 | f :: fs,(x,y) :: l,b,hl,hf,h=>by
  unfold ld at h;split at h
  .rename_i b1 b2 h1 h2;cases h;obtain ⟨h3,h4,h5,h6⟩:=hf 0 f (x,y) rfl rfl;obtain ⟨h7,u,hu,h8,h9⟩:=GG (P:=P) (w:=w) (d:=d) h1 h4;rw [EB h3 hu h8 h9 h5 h6 h7,sy fs l b2 (by simpa using hl) (fun k f p hk hp=>hf (k+1) f p (by simpa using hk) (by simpa using hp)) h2];cases b1<;>simp
  .cases h
theorem sr {t:TypeId} {op:BinOp} (l:List (Value × Value)) {b:Bool} (ht:P.underlying t=some (.struct (P.fieldsOf t))) (hs:P.stoodInHeld t=false) (hg:P.eqGuardType P.depth t=false) (hl:(P.fieldsOf t).toList.length=l.length)
  (hf : ∀ (k : Nat) (f : Field) (p : Value × Value), (P.fieldsOf t).toList[k]? = some f → l[k]? = some p → f.name ≠ "_" ∧ tf P f.type p.1 = true ∧ xs[f.offset]? = some p.1 ∧ ys[f.offset]? = some p.2) (h : ld l = some b) (hop : op = .eql ∨ op = .neq) : qT P op t (.agg xs) (.agg ys) (.bool (if op matches .eql then b else !b)) := fun w x y => by
 have he:∀ w,(Op.equalIn 10000 t (.agg xs) (.agg ys)).run P w=.ok b w:=fun w=>by
  rw [run_equalIn_agg w 9999 t xs ys ht hs];exact sy (P:=P) (d:=9998) _ l b hl hf h
 rcases hop with rfl|rfl
 .simp only [Sem.run_bind,run_eqGuard_agg w _ t x y xs ys hg,Result.andThen_ok,run_eql_struct,he];rfl
 .simp only [Sem.run_bind,run_eqGuard_agg w _ t x y xs ys hg,Result.andThen_ok,run_neq_struct,he];rfl
end
end
section
structure al where
 op:Int
 la:Int
 ln:Int
 ra:Int
 rn:Int
 n:Int
 u:Int
structure St where
 vals:List Int
 opn:Int
 don:Int
 did:List Int
 cnt:List Int
def bk (s i:Int):Bool:=decide (0<=i) && decide (i<31) && (s / 2 ^ i.toNat % 2 == 1)
def M0 (op c:Int):Bool:=
 if op=3 then decide (c<0) else if op=4 then decide (c<=0) else if op=5 then decide (0<c) else if op=6 then decide (0<=c) else if op=7 then c == 0 else if op=8 then c != 0 else false
def Cs (a b:Int):Int:=if a<b then -1 else if b<a then 1 else 0
def qH (vals:List Int) (a n:Int):Option Int:=if a = -1 then some n else if a<0 then none else vals[a.toNat]?
def aC (op:Int):Int:=
 if 1<=op /\ op<=14 then 0 else if op=15 \/ (19<=op /\ op<=24) then 1 else if (16<=op /\ op<=18) \/ op=25 \/ op=26 then 2 else -1
def dI (d:Nat) (op:Int):Option Nat:=
 if aC op=0 then some (d+1) else if aC op=1 /\ 1<=d then some d else if aC op=2 /\ 2<=d then some (d - 1) else none
def bq:List Int -> Nat -> Option Nat
 | [],d=>some d
 | op :: l,d=>match dI d op with
  | some d'=>bq l d'
  | none=>none
def cc (l:List Int):Int:=if l.length=0 then 12 else if 64<l.length then 3 else if bq l 0=some 1 then 0 else 17
def fJ (cm:al -> Option Int) (opn don:Int) (x:al) (r:List Bool):Option (List Bool):=
 if x.op=1 \/ x.op=2 then some ((x.op == 1) :: r)
 else if 3<=x.op /\ x.op<=8 then
  match cm x with
  | some c=>some (M0 x.op c :: r)
  | none=>none
 else if x.op=9 then some (bk opn x.n :: r)
 else if x.op=10 then some (bk don x.n :: r)
 else if x.op=15 then
  match r with
  | a :: r=>some ((!a) :: r)
  | []=>none
 else if 16<=x.op /\ x.op<=18 then
  match r with
  | b :: a :: r=>some ((if x.op=16 then a && b else if x.op=17 then a || b else !a || b) :: r)
  | _=>none
 else none
def ez (cm:al -> Option Int) (opn don:Int):List al -> List Bool -> Option (List Bool)
 | [],r=>some r
 | x :: l,r=>match fJ cm opn don x r with
  | some r'=>ez cm opn don l r'
  | none=>none
def lY (cm:al -> Option Int) (opn don:Int) (l:List al):Option Bool:=
 if cc (l.map al.op) ≠ 0 then none else
  match ez cm opn don l [] with
  | some (b :: _)=>some b
  | _=>none
def uJ (vals:List Int) (x:al):Option Int:=match qH vals x.la x.ln,qH vals x.ra x.rn with
 | some a,some b=>some (Cs a b)
 | _,_=>none
def g7 (l:List al) (s:St):Option Bool:=lY (uJ s.vals) s.opn s.don l
def mA (o:Option Bool):Bool:=o.getD false
def xv (o:Option Bool):Int:=if o.isSome then 0 else 17
end
section
open Go.RowKit Go.ChangeShapes Go.WideShapes Go.Deep
structure ij (α:Type) where
 size:Nat
 at_:World -> (Nat -> Prop) -> List Value -> α -> Prop
 len:∀ {w:World} {S:Nat -> Prop} {cs:List Value} {a:α},at_ w S cs a -> cs.length=size
 keep:∀ {w w':World} {S:Nat -> Prop} {cs:List Value} {a:α},at_ w S cs a -> (∀ p:Addr,S p.block -> w'.cell? p=w.cell? p) -> at_ w' S cs a
 mono:∀ {w:World} {S S':Nat -> Prop} {cs:List Value} {a:α},at_ w S cs a -> (∀ b,S b -> S' b) -> at_ w S' cs a
def ij.one {α:Type} (r:ij α) (w:World) (S:Nat -> Prop) (v:Value) (a:α):Prop:=r.at_ w S [v] a
def eZ (k:IntKind):ij Int where
 size:=1
 at_:=fun _ _ cs n=>cs=[.int k n] /\ (Lit.int k n).wf=true
 len:=fun h=>by rw [h.1];rfl
 keep:=fun h _=>h
 mono:=fun h _=>h
def Au:ij Bool where
 size:=1
 at_:=fun _ _ cs b=>cs=[.bool b]
 len:=fun h=>by rw [h];rfl
 keep:=fun h _=>h
 mono:=fun h _=>h
def pb:ij ByteArray where
 size:=1
 at_:=fun _ _ cs s=>cs=[.string s] /\ s.size<=9223372036854775807
 len:=fun h=>by rw [h.1];rfl
 keep:=fun h _=>h
 mono:=fun h _=>h
def sg {α:Type} (r:ij α) (w:World) (S:Nat -> Prop) (b o:Nat) (l:List α):Prop:=
 ∀ i (h:i<l.length),∃ cs,(∀ j u,cs[j]? = some u -> w.cell? ⟨b,o+i * r.size+j,none⟩=some u) /\ r.at_ w S cs l[i]
theorem y1 {α:Type} {r:ij α} {w w':World} {S:Nat -> Prop} {b o:Nat} {l:List α} (h:sg r w S b o l) (hb:S b) (hk:∀ p:Addr,S p.block -> w'.cell? p=w.cell? p):sg r w' S b o l:=by
 intro i hi;obtain ⟨cs,h1,h2⟩:=h i hi;exact ⟨cs,fun j u hu=>(hk _ hb).trans (h1 j u hu),r.keep h2 hk⟩
theorem xB {α:Type} {r:ij α} {w:World} {S S':Nat -> Prop} {b o:Nat} {l:List α} (h:sg r w S b o l) (hB:∀ b,S b -> S' b):sg r w S' b o l:=by
 intro i hi;obtain ⟨cs,h1,h2⟩:=h i hi;exact ⟨cs,h1,r.mono h2 hB⟩
def aV {α:Type} (r:ij α):ij (List α) where
 size:=1
 at_:=fun w S cs l=>∃ A c,cs=[.slice A l.length c] /\ l.length<=c /\ c<=9223372036854775807 /\ (0<l.length -> ∃ b o,A=some ⟨b,o,none⟩ /\ S b /\ sg r w S b o l)
 len:=fun ⟨A,c,h,_⟩=>by rw [h];rfl
 keep:=fun ⟨A,c,h1,h2,h3,h4⟩ hk=>⟨A,c,h1,h2,h3,fun hl=>by
  obtain ⟨b,o,e,hb,hr⟩:=h4 hl;exact ⟨b,o,e,hb,y1 hr hb hk⟩⟩
 mono:=fun ⟨A,c,h1,h2,h3,h4⟩ hB=>⟨A,c,h1,h2,h3,fun hl=>by
  obtain ⟨b,o,e,hb,hr⟩:=h4 hl;exact ⟨b,o,e,hB b hb,xB hr hB⟩⟩
def bT {α β:Type} (r:ij α) (s:ij β):ij (α × β) where
 size:=r.size+s.size
 at_:=fun w S cs x=>∃ c1 c2,cs=c1 ++ c2 /\ r.at_ w S c1 x.1 /\ s.at_ w S c2 x.2
 len:=fun ⟨c1,c2,h,h1,h2⟩=>by rw [h,NB,r.len h1,s.len h2]
 keep:=fun ⟨c1,c2,h,h1,h2⟩ hk=>⟨c1,c2,h,r.keep h1 hk,s.keep h2 hk⟩
 mono:=fun ⟨c1,c2,h,h1,h2⟩ hB=>⟨c1,c2,h,r.mono h1 hB,s.mono h2 hB⟩
def ri:ij Unit where
 size:=0
 at_:=fun _ _ cs _=>cs=[]
 len:=fun h=>by rw [h];rfl
 keep:=fun h _=>h
 mono:=fun h _=>h
theorem df {n:Int} (h:(Lit.int .i64 n).wf=true):-9223372036854775808<=n /\ n<=9223372036854775807:=by
 simpa [Lit.wf,IntKind.min,IntKind.max,IntKind.signed,IntKind.bits] using h
theorem B2 {n:Int} (h1:-9223372036854775808<=n) (h2:n<=9223372036854775807):(Lit.int .i64 n).wf=true:=by
 simp [Lit.wf,IntKind.min,IntKind.max,IntKind.signed,IntKind.bits];omega
section
variable {α:Type} {r:ij α} {w w':World} {S:Nat -> Prop} {v:Value} {l:List α}
theorem fX (h:(aV r).one w S v l):∃ A c,v=.slice A l.length c /\ l.length<=c /\ c<=9223372036854775807:=by
 obtain ⟨A,c,h1,h2,h3,_⟩:=h;exact ⟨A,c,by simpa using h1,h2,h3⟩
theorem jX {A:Option Addr} {n c:Nat} (h:(aV r).one w S (.slice A n c) l) (hn:0<l.length):∃ b o,A=some ⟨b,o,none⟩ /\ S b /\ sg r w S b o l:=by
 obtain ⟨A',c',h1,_,_,h4⟩:=h;simp at h1;obtain ⟨rfl,_,_⟩:=h1;exact h4 hn
theorem Bt (hs:r.size=1) {b o c:Nat} {n:Nat} (h:(aV r).one w S (.slice (some ⟨b,o,none⟩) n c) l) {k:Nat} (hk:k<l.length):∃ u,w.cell? ⟨b,o+k,none⟩=some u /\ r.at_ w S [u] l[k]:=by
 obtain ⟨b',o',e,_,hr⟩:=jX h (by omega);simp at e;obtain ⟨rfl,rfl⟩:=e;obtain ⟨cs,h1,h2⟩:=hr k hk;have hl:=r.len h2;rw [hs] at hl h1
 match cs,hl with
 | [u],_=>exact ⟨u,by simpa using h1 0 u rfl,h2⟩
theorem AL (w:World) (S:Nat -> Prop) (r:ij α):(aV r).one w S (.slice none 0 0) []:=⟨none,0,rfl,Nz _,by omega,fun h=>absurd h (by simp)⟩
theorem lD (h:(aV r).one w S v l) {S':Nat -> Prop} (hB:∀ b,S b -> S' b):(aV r).one w S' v l:=ij.mono (aV r) h hB
theorem lZ (h:(aV r).one w S v l) (hk:∀ p:Addr,S p.block -> w'.cell? p=w.cell? p):(aV r).one w' S v l:=ij.keep (aV r) h hk
end
theorem Gz {w:World} {S:Nat -> Prop} {b o c n:Nat} {l:List Int} (h:(aV (eZ .i64)).one w S (.slice (some ⟨b,o,none⟩) n c) l) {k:Nat} (hk:k<l.length) :
  w.cell? ⟨b,o+k,none⟩=some (.int .i64 l[k]) /\ -9223372036854775808<=l[k] /\ l[k]<=9223372036854775807:=by
 obtain ⟨u,h1,h2⟩:=Bt (r:=eZ .i64) rfl h hk;obtain ⟨h2,h3⟩:=h2;simp at h2;subst h2;exact ⟨h1,df h3⟩
theorem vq {α:Type} {p:Nat -> α -> Prop}:∀ {n:Nat},(∀ i,i<n -> ∃ y,p i y) -> ∃ l:List α,l.length=n /\ ∀ i (h:i<l.length),p i l[i]:=by
 intro n
 induction n with
 | zero=>intro _;exact ⟨[],rfl,fun i h=>absurd h (by simp)⟩
 | succ n ih=>
  intro h;obtain ⟨l,h1,h2⟩:=ih fun i hi=>h i (by omega);obtain ⟨y,hy⟩:=h n (by omega);refine ⟨l ++ [y],by simp [h1],fun i hi=>?_⟩;by_cases hin:i<l.length
  .rw [Pk hin];exact h2 i hin
  .have:i=l.length:=by simp at hi;omega
   subst this;rw [PC (by omega)];simpa [h1] using hy
def db {α:Type} (P:Program) (t:TypeId) (r:ij α):Prop:=∀ (H:Type) (enc:TypeId × Value -> H) (w:World) (fuel:Nat) (cs:List Value) (x:DataW H × List MemPlace),
 DataW.trod enc P w 0 (fun _=>true) true fuel t cs=some x -> ∃ a,r.at_ w (fun b=>b<w.heap.size) cs a
section
variable {P:Program}
theorem sw {t:TypeId} {k:IntKind} (h:P.underlying t=some (.int k)):db P t (eZ k):=by
 intro H enc w fuel cs x hx;obtain ⟨n,rfl,_,hw⟩:=DataW.trod_int h hx;exact ⟨n,rfl,hw⟩
theorem xG {t:TypeId} (h:P.underlying t=some .bool):db P t Au:=by
 intro H enc w fuel cs x hx;obtain ⟨b,rfl,_⟩:=DataW.trod_bool h hx;exact ⟨b,rfl⟩
theorem bU {α:Type} {t e:TypeId} {r:ij α} (ht:P.underlying t=some (.slice e)) (hs:P.cellsOf e=r.size) (hp:0<r.size) (ho:db P e r):db P t (aV r):=by
 intro H enc w fuel cs x hx;rcases Go.Deep.open_slice ht hx with ⟨rfl,_⟩|⟨a,len,cap,m,n,D,Pl,rfl,_,hl,hm,hmm,_,hi⟩
 .exact ⟨[],AL _ _ _⟩
 .simp only [if_true] at hmm;subst hmm
  obtain ⟨l,hll,hl2⟩:=vq (n:=len) (p:=fun i y=>∃ cs',w.cells? 0 (a.add (i * P.cellsOf e)) (P.cellsOf e)=some cs' /\ r.at_ w (fun b=>b<w.heap.size) cs' y) (fun i hil=>by
   obtain ⟨cs',h1,h2⟩:=hi i (by omega);obtain ⟨y,hy⟩:=ho H enc w n cs' _ h2;exact ⟨y,cs',h1,hy⟩)
  subst hll;refine ⟨l,some a,_,rfl,hl,by simpa [maxLen] using hm,fun h0=>?_⟩;obtain ⟨cs0,h1,h2⟩:=hl2 0 h0;obtain ⟨_,hlen,hc⟩:=World.cells?_some h1;have hc0:=hc 0 (by omega);have hlt:0<cs0.length:=by rw [hlen];omega
  rw [Nq hlt] at hc0;have e0:(a.add (0 * P.cellsOf e)).add 0=a:=by simp [Addr.add]
  rw [e0] at hc0;have hb:=World.block_lt_of_cell? w a hc0
  have hsp:a.spot=none:=by
   unfold World.cell? at hc0;split at hc0
   .split at hc0
    .cases hc0
    .rename_i h5;simpa using h5
   .cases hc0
  obtain ⟨b,o,sp⟩:=a;simp only at hsp hb;subst hsp;refine ⟨b,o,rfl,hb,fun i hi'=>?_⟩;obtain ⟨cs',h1,h2⟩:=hl2 i hi';refine ⟨cs',fun j u hu=>?_,h2⟩;obtain ⟨_,hlen',hc'⟩:=World.cells?_some h1
  have hj:j<P.cellsOf e:=by
   have:=(Nw.1 hu).1;omega
  have:=hc' j hj;rw [hu,Go.Deep.add_add,hs] at this;rw [<- this]
  congr 1
  unfold Addr.add;split
  .rename_i h6;simp_all
  .simp [O6]
end
end
section
def aB (n:Int):Prop:=-9223372036854775808<=n /\ n<=9223372036854775807
def al.cells (x:al):List Value:=[.int .i64 x.op,.int .i64 x.la,.int .i64 x.ln,.int .i64 x.ra,.int .i64 x.rn,.int .i64 x.n,.int .i64 x.u]
def al.ok (x:al):Prop:=aB x.op /\ aB x.la /\ aB x.ln /\ aB x.ra /\ aB x.rn /\ aB x.n /\ aB x.u
def m7:ij al where
 size:=7
 at_:=fun _ _ cs x=>cs=x.cells /\ x.ok
 len:=fun h=>by rw [h.1];rfl
 keep:=fun h _=>h
 mono:=fun h _=>h
end
section
open Go.RowKit Go.ChangeShapes Go.WideShapes Go.Deep
def uG {α:Type} (P:Program) (fs:List Field) (off:Nat) (r:ij α):Prop:=∀ (H:Type) (enc:TypeId × Value -> H) (w:World) (fuel:Nat) (cs:List Value),
 off+r.size<=cs.length -> (∀ (i:Nat) (f:Field),fs[i]? = some f -> ∃ x,DataW.trod enc P w 0 (fun _=>true) true fuel f.type ((cs.drop f.offset).take (P.cellsOf f.type))=some x) ->
 ∃ a,r.at_ w (fun b=>b<w.heap.size) ((cs.drop off).take r.size) a
theorem cV (P:Program) (off:Nat):uG P [] off ri:=fun _ _ _ _ _ _ _=>⟨(),by simp [ri]⟩
theorem ay {α β:Type} {P:Program} {f:Field} {fs:List Field} {off:Nat} {r:ij α} {s:ij β} (ho:f.offset=off) (hc:P.cellsOf f.type=r.size) (h1:db P f.type r) (h2:uG P fs (off+r.size) s):uG P (f :: fs) off (bT r s):=by
 intro H enc w fuel cs hl hf;have hlr:off+(r.size+s.size)<=cs.length:=hl;obtain ⟨x,hx⟩:=hf 0 f rfl;obtain ⟨a,ha⟩:=h1 H enc w fuel _ _ hx;obtain ⟨b,hb⟩:=h2 H enc w fuel cs (by omega) (fun i g hg=>hf (i+1) g (by simpa using hg));refine ⟨(a,b),_,_,?_,ha,hb⟩;rw [ho,hc];show List.take (r.size+s.size) (cs.drop off)=_;rw [List.take_add,List.drop_drop]
theorem b9 {α:Type} {P:Program} {t:TypeId} {fs:Array Field} {r:ij α} (ht:P.underlying t=some (.struct fs)) (hc:P.cellsOf t=r.size) (ho:uG P fs.toList 0 r):db P t r:=by
 intro H enc w fuel cs x hx;obtain ⟨xs,n,_,_,hl,hlen,hf⟩:=DataW.trod_struct ht hx
 obtain ⟨a,ha⟩:=ho H enc w n cs (by omega) (fun i f hfi=>by
  have hfi':fs[i]? = some f:=by simpa using hfi
  have h1:=hf i f hfi';have hi:i<xs.length:=by rw [hlen];exact (N8.1 hfi').1
  exact ⟨xs[i],by rw [h1,Nq hi]⟩)
 refine ⟨a,?_⟩
 rwa [List.drop_zero,NT (by omega)] at ha
theorem tH {P:Program} {t:TypeId} (h:P.underlying t=some .string):db P t pb:=by
 intro H enc w fuel cs x hx;obtain ⟨s,rfl,_,hs⟩:=DataW.trod_string h hx;exact ⟨s,rfl,by simpa [maxLen] using hs⟩
theorem f7 {α β:Type} {P:Program} {t:TypeId} {r:ij α} {s:ij β} (h:db P t r) (f:α -> β) (hf:∀ w S cs a,r.at_ w S cs a -> s.at_ w S cs (f a)):db P t s:=by
 intro H enc w fuel cs x hx;obtain ⟨a,ha⟩:=h H enc w fuel cs x hx;exact ⟨f a,hf _ _ _ _ ha⟩
theorem rG {P:Program} {W:World} {r:Reach} {b:Nat} {t:TypeId} {fs:Array Field} {v:Value} (ht:P.underlying t=some (.struct fs)) (h:Value.okWide P W r b t v):∃ cs,v=.agg cs /\ cs.size=P.cellsOf t:=by
 simp only [Value.okWide,ht] at h;obtain ⟨cs,h1,h2,_⟩:=h;exact ⟨cs,h1,h2⟩
theorem aJ {α β:Type} {r:ij α} {s:ij β} {w:World} {S:Nat -> Prop} {cs:List Value} {p:α × β} (h:(bT r s).at_ w S cs p):∃ c1 c2,cs=c1 ++ c2 /\ r.at_ w S c1 p.1 /\ s.at_ w S c2 p.2:=h
theorem ey {α:Type} {r:ij α} {w:World} {S:Nat -> Prop} {cs:List Value} {a:α} (hr:r.size=1) (h:r.at_ w S cs a):∃ v,cs=[v] /\ r.one w S v a:=by
 have:=r.len h;rw [hr] at this
 match cs,this with
 | [v],_=>exact ⟨v,rfl,h⟩
end
section
structure Gd where
 stage:Int
 event:Int
 cond:List al
structure Ml where
 name:ByteArray
 stage:Int
 event:Int
 cond:List al
 final:Bool
structure Ev where
 name:ByteArray
 role:Int
 stage:Int
 sets:List Int
 times:Int
structure bb where
 attrs:List ByteArray
 inits:List Int
 users:List ByteArray
 roles:List (ByteArray × Int)
 stages:List (ByteArray × Int)
 events:List Ev
 guards:List Gd
 miles:List Ml
 sods:List (Int × Int)
 order:List (Bool × Int)
def E9 (s:ByteArray):Prop:=s.size<=9223372036854775807
def eJ:ij (ByteArray × Int) where
 size:=2
 at_:=fun _ _ cs x=>cs=[.string x.1,.int .i64 x.2] /\ E9 x.1 /\ aB x.2
 len:=fun h=>by rw [h.1];rfl
 keep:=fun h _=>h
 mono:=fun h _=>h
def mg:ij (Int × Int) where
 size:=2
 at_:=fun _ _ cs x=>cs=[.int .i64 x.1,.int .i64 x.2] /\ aB x.1 /\ aB x.2
 len:=fun h=>by rw [h.1];rfl
 keep:=fun h _=>h
 mono:=fun h _=>h
def mq:ij (Bool × Int) where
 size:=2
 at_:=fun _ _ cs x=>cs=[.bool x.1,.int .i64 x.2] /\ aB x.2
 len:=fun h=>by rw [h.1];rfl
 keep:=fun h _=>h
 mono:=fun h _=>h
def Mw:ij Gd where
 size:=3
 at_:=fun w S cs g=>∃ cv,cs=[.int .i64 g.stage,.int .i64 g.event,cv] /\ (aV m7).one w S cv g.cond /\ aB g.stage /\ aB g.event
 len:=fun ⟨_,h,_⟩=>by rw [h];rfl
 keep:=fun ⟨cv,h,h2,h3⟩ hk=>⟨cv,h,lZ h2 hk,h3⟩
 mono:=fun ⟨cv,h,h2,h3⟩ hB=>⟨cv,h,lD h2 hB,h3⟩
def MN:ij Ml where
 size:=5
 at_:=fun w S cs g=>∃ cv,cs=[.string g.name,.int .i64 g.stage,.int .i64 g.event,cv,.bool g.final] /\ (aV m7).one w S cv g.cond /\ aB g.stage /\ aB g.event /\ E9 g.name
 len:=fun ⟨_,h,_⟩=>by rw [h];rfl
 keep:=fun ⟨cv,h,h2,h3⟩ hk=>⟨cv,h,lZ h2 hk,h3⟩
 mono:=fun ⟨cv,h,h2,h3⟩ hB=>⟨cv,h,lD h2 hB,h3⟩
def Mz:ij Ev where
 size:=5
 at_:=fun w S cs g=>∃ cv,cs=[.string g.name,.int .i64 g.role,.int .i64 g.stage,cv,.int .i64 g.times] /\ (aV (eZ .i64)).one w S cv g.sets /\ aB g.role /\ aB g.stage /\ aB g.times /\ E9 g.name
 len:=fun ⟨_,h,_⟩=>by rw [h];rfl
 keep:=fun ⟨cv,h,h2,h3⟩ hk=>⟨cv,h,lZ h2 hk,h3⟩
 mono:=fun ⟨cv,h,h2,h3⟩ hB=>⟨cv,h,lD h2 hB,h3⟩
def SI {α:Type} (r:ij α) (w:World) (v:Value) (l:List α):Prop:=(aV r).one w (fun b=>b<w.heap.size) v l
structure MV where
 attrs:Value
 inits:Value
 users:Value
 roles:Value
 stages:Value
 events:Value
 guards:Value
 miles:Value
 sods:Value
 order:Value
abbrev MV.cells (V:MV):Array Value:=#[V.attrs,V.inits,V.users,V.roles,V.stages,V.events,V.guards,V.miles,V.sods,V.order]
structure Li (w:World) (V:MV) (m:bb):Prop where
 attrs:SI pb w V.attrs m.attrs
 inits:SI (eZ .i64) w V.inits m.inits
 users:SI pb w V.users m.users
 roles:SI eJ w V.roles m.roles
 stages:SI eJ w V.stages m.stages
 events:SI Mz w V.events m.events
 guards:SI Mw w V.guards m.guards
 miles:SI MN w V.miles m.miles
 sods:SI mg w V.sods m.sods
 order:SI mq w V.order m.order
end
section
def lr (s:Int):Nat:=(s % 2147483648).toNat
theorem fB (s:Int):lr s<2 ^ 31:=by unfold lr;omega
theorem pT (n:Nat) (h:n<2 ^ 31):lr (n:Int)=n:=by unfold lr;omega
def cY (s i:Int):Int:=if 0<=i /\ i<31 then ((lr s ||| 2 ^ i.toNat:Nat):Int) else (lr s:Int)
def bQ (s i:Int):Int:=if 0<=i /\ i<31 then ((lr s ^^^ (lr s &&& 2 ^ i.toNat):Nat):Int) else (lr s:Int)
theorem cQ (s:Int) (j:Nat) (hj:j<31):bk s (j:Int)=(lr s).testBit j:=by
 have h1:bk s (j:Int)=(s / 2 ^ j % 2 == 1):=by
  unfold bk;rw [show decide (0<=(j:Int))=true by simp,show decide ((j:Int)<31)=true by simp;omega];rfl
 rw [h1,Nat.testBit_eq_decide_div_mod_eq]
 have hs:s=2 ^ j * (2 ^ (30 - j) * 2 * (s / 2147483648))+s % 2147483648:=by
  have e:(2:Int) ^ j * (2 ^ (30 - j) * 2 * (s / 2147483648))=(2 ^ j * 2 ^ (30 - j) * 2) * (s / 2147483648):=by
   rw [<- Int.mul_assoc,<- Int.mul_assoc]
  rw [e,<- Int.pow_add,show j+(30 - j)=30 by omega];have:=Int.mul_ediv_add_emod s 2147483648;omega
 have h2:s / 2 ^ j % 2=((lr s / 2 ^ j % 2:Nat):Int):=by
  have hr:((lr s:Nat):Int)=s % 2147483648:=by unfold lr;omega
  rw [Int.natCast_emod,Int.natCast_ediv,hr];have hp:((2 ^ j:Nat):Int)=2 ^ j:=by simp
  rw [hp]
  conv=>lhs;rw [hs]
  rw [Int.add_comm,Int.add_mul_ediv_left _ _ (by have:(0:Int)<2 ^ j:=Int.pow_pos (by omega);omega)];rw [show (2:Int) ^ (30 - j) * 2 * (s / 2147483648)=2 * (2 ^ (30 - j) * (s / 2147483648)) by rw [Int.mul_comm ((2:Int) ^ (30 - j)) 2,Int.mul_assoc]];omega
 rw [h2];generalize lr s / 2 ^ j % 2=n;rw [O7];simp;omega
theorem jm (s j:Int) (hj:¬ (0<=j /\ j<31)):bk s j=false:=by
 unfold bk;by_cases h:0<=j
 .rw [show decide (j<31)=false by simp;omega];simp
 .rw [show decide (0<=j)=false by simp;omega];rfl
theorem sO (s i j:Int):bk (cY s i) j=((decide (0<=i /\ i<31) && (j == i)) || bk s j):=by
 by_cases hj:0<=j /\ j<31
 .obtain ⟨n,rfl⟩:∃ n:Nat,j=(n:Int):=⟨j.toNat,by omega⟩;unfold cY;by_cases hi:0<=i /\ i<31
  .obtain ⟨k,rfl⟩:∃ k:Nat,i=(k:Int):=⟨i.toNat,by omega⟩;have hl:lr s ||| 2 ^ k<2 ^ 31:=Nat.or_lt_two_pow (fB s) (Nat.pow_lt_pow_right (by omega) (by omega));rw [ND hi,Ou,cQ _ _ (by omega),pT _ hl,Nat.testBit_or,cQ _ _ (by omega),Nat.testBit_two_pow,Bool.or_comm]
   congr 1
   rw [O7];simp;omega
  .rw [Ny hi,cQ _ _ (by omega),pT _ (fB s),cQ _ _ (by omega)];simp [hi]
 .rw [jm _ _ hj,jm _ _ hj,PW];symm;rw [Oi];by_cases hi:0<=i /\ i<31
  .right;exact Oa.2 (by omega)
  .left;simpa using hi
theorem gN (s i j:Int):bk (bQ s i) j=(!(j == i) && bk s j):=by
 by_cases hj:0<=j /\ j<31
 .obtain ⟨n,rfl⟩:∃ n:Nat,j=(n:Int):=⟨j.toNat,by omega⟩;unfold bQ;by_cases hi:0<=i /\ i<31
  .obtain ⟨k,rfl⟩:∃ k:Nat,i=(k:Int):=⟨i.toNat,by omega⟩;have hl:lr s ^^^ (lr s &&& 2 ^ k)<2 ^ 31:=Nat.xor_lt_two_pow (fB s) (Nat.lt_of_le_of_lt Nat.and_le_left (fB s));rw [ND hi,Ou,cQ _ _ (by omega),pT _ hl,Nat.testBit_xor,Nat.testBit_and,Nat.testBit_two_pow,cQ _ _ (by omega)];by_cases e:n=k
   .subst e;cases (lr s).testBit n<;>simp
   .rw [show ((n:Int) == (k:Int))=false from Oa.2 (by omega),show decide (k=n)=false by simp;omega];simp
  .rw [Ny hi,cQ _ _ (by omega),pT _ (fB s),cQ _ _ (by omega),show ((n:Int) == i)=false from Oa.2 (by omega)];rfl
 .rw [jm _ _ hj,jm _ _ hj,Bool.and_false]
theorem iy (a:Nat) (ha:a<2 ^ 64):(BitVec.ofInt 64 (a:Int)).toNat=a:=by
 rw [BitVec.ofInt_natCast,BitVec.toNat_ofNat];exact Nat.mod_eq_of_lt ha
theorem vH (n:Nat) (h:n<2 ^ 63):IntKind.i64.wrap (n:Int)=(n:Int):=by
 simp [IntKind.wrap,IntKind.bits,IntKind.signed];omega
end
end
section
section
abbrev eD (x:al):List AV:=[eI x.op,eI x.la,eI x.ln,eI x.ra,eI x.rn,eI x.n,eI x.u]
abbrev a7 (l:List al):AV:=.sl 7 (l.map eD)
abbrev Ea (g:Gd):List AV:=[eI g.stage,eI g.event,a7 g.cond]
abbrev EM (g:Ml):List AV:=[eS g.name,eI g.stage,eI g.event,a7 g.cond,eB g.final]
abbrev Iu (g:Ev):List AV:=[eS g.name,eI g.role,eI g.stage,sI g.sets,eI g.times]
abbrev MQ (p:ByteArray × Int):List AV:=[eS p.1,eI p.2]
abbrev MZ (p:Int × Int):List AV:=[eI p.1,eI p.2]
abbrev uK (p:Bool × Int):List AV:=[eB p.1,eI p.2]
abbrev aQ (m:bb):List AV:=[.sl 1 (m.attrs.map fun s=>[eS s]),sI m.inits,.sl 1 (m.users.map fun s=>[eS s]),.sl 2 (m.roles.map MQ),.sl 2 (m.stages.map MQ),.sl 5 (m.events.map Iu),.sl 3 (m.guards.map Ea),.sl 5 (m.miles.map EM),.sl 2 (m.sods.map MZ),.sl 2 (m.order.map uK)]
abbrev il (s:St):List AV:=[sI s.vals,eI s.opn,eI s.don,sI s.did,sI s.cnt]
def fF (m:bb):List Int:=m.stages.map (·.2)
def yd (m:bb):Prop:=(∀ g ∈ m.guards,∀ x ∈ g.cond,x.ok) /\ ∀ g ∈ m.miles,∀ x ∈ g.cond,x.ok
theorem ah:Tryz.prog.follows .mixedOrders=true:=by kernel_rfl
def t6 (m:bb):Prop:=m.guards.length<=14 /\ m.miles.length<=10 /\ m.stages.length<=10 /\ m.events.length<=10 /\ m.attrs.length<=10 /\ m.users.length<=10 /\ m.roles.length<=10 /\ m.sods.length<=10 /\ m.order.length<=40 /\ m.inits.length<=10
structure rL (m:bb):Prop where
 sizes:t6 m
 guards:∀ g ∈ m.guards,g.cond.length<=80
 miles:∀ g ∈ m.miles,g.cond.length<=80
 events:∀ g ∈ m.events,g.sets.length<=10
theorem ou (m:bb):dn Tryz.prog 6 [.agg (aQ m)] fun R=>∃ b,R=val (.bool b) /\ (b=false -> rL m):=by
 refine aM ah Tryz.func6 rfl (by decide) Tryz.ntmps6 Tryz.results6 rfl ?_
 repeat' first|refine go ?_|decide|refine sp ?_ ?_<;>intro _
 all_goals first|with_reducible exact ca ⟨true,rfl,fun h=>by cases h⟩|skip
 have hS:t6 m:=by simp_all [t6];omega
 obtain ⟨h1,h2,h3,h4,h5,h6,h7,h8,h9,h10⟩:=id hS;refine ae (fun st=>∃ k:Nat,k<=m.guards.length /\ (∀ i (h:i<m.guards.length),i<k -> m.guards[i].cond.length<=80) /\ st=⟨109,[(1,.op 0 0 0),(3,eI (k:Int))],[(0,some (.box 32 (aQ m)))],1⟩) (fun st=>m.guards.length - aq st 3) ⟨_,wC,0,Nv _,?_,rfl⟩ ?_
 .exact fun i h h2=>absurd h2 (by omega)
 rintro _ ⟨k,hk,hg,rfl⟩;by_cases hlt:k<m.guards.length
 .repeat' first|refine go ?_|simp only [ab,hlt]|decide|refine sp ?_ ?_<;>intro _
  .with_reducible exact ca ⟨true,rfl,fun h=>by cases h⟩
  .rename_i hc;refine rI wC ⟨k+1,by omega,fun i h h2=>?_,rfl⟩;rcases NP i k with h3|h3
   .exact hg i h h3
   .obtain rfl:i=k:=by omega
    simp at hc;omega
 repeat' first|decide|refine go ?_|simp only [ab,hlt]
 refine ae (fun st=>∃ q:Nat,q<=m.miles.length /\ (∀ i (h:i<m.miles.length),i<q -> m.miles[i].cond.length<=80) /\ st=⟨109,[(1,.op 0 0 0),(4,eI (q:Int))],[(0,some (.box 32 (aQ m)))],1⟩) (fun st=>m.miles.length - aq st 4) ⟨_,wC,0,Nv _,?_,rfl⟩ ?_
 .exact fun i h h2=>absurd h2 (by omega)
 rintro _ ⟨q,hq,hm,rfl⟩;by_cases hlt2:q<m.miles.length
 .repeat' first|refine go ?_|simp only [ab,hlt2]|decide|refine sp ?_ ?_<;>intro _
  .with_reducible exact ca ⟨true,rfl,fun h=>by cases h⟩
  .rename_i hc;refine rI wC ⟨q+1,by omega,fun i h h2=>?_,rfl⟩;rcases NP i q with h3|h3
   .exact hm i h h3
   .obtain rfl:i=q:=by omega
    simp at hc;omega
 repeat' first|decide|refine go ?_|simp only [ab,hlt2]
 refine ae (fun st=>∃ r:Nat,r<=m.events.length /\ (∀ i (h:i<m.events.length),i<r -> m.events[i].sets.length<=10) /\ st=⟨109,[(1,.op 0 0 0),(5,eI (r:Int))],[(0,some (.box 32 (aQ m)))],1⟩) (fun st=>m.events.length - aq st 5) ⟨_,wC,0,Nv _,?_,rfl⟩ ?_
 .exact fun i h h2=>absurd h2 (by omega)
 rintro _ ⟨r,hr,he,rfl⟩;by_cases hlt3:r<m.events.length
 .repeat' first|refine go ?_|simp only [ab,hlt3]|decide|refine sp ?_ ?_<;>intro _
  .with_reducible exact ca ⟨true,rfl,fun h=>by cases h⟩
  .rename_i hc;refine rI wC ⟨r+1,by omega,fun i h h2=>?_,rfl⟩;rcases NP i r with h3|h3
   .exact he i h h3
   .obtain rfl:i=r:=by omega
    simp at hc;omega
 repeat' first|decide|refine go ?_|simp only [ab,hlt3]
 refine ca ⟨false,rfl,fun _=>⟨hS,fun g hg'=>?_,fun g hg'=>?_,fun g hg'=>?_⟩⟩
 .obtain ⟨i,hi,rfl⟩:=NV hg';exact hg i hi (by omega)
 .obtain ⟨i,hi,rfl⟩:=NV hg';exact hm i hi (by omega)
 .obtain ⟨i,hi,rfl⟩:=NV hg';exact he i hi (by omega)
def dx (n most:Int):Bool:=decide (0<=n) && decide (n<most)
theorem rO (n most:Int):ax Tryz.prog 71 [eI n,eI most] (val (.bool (dx n most))):=by
 refine aa ah Tryz.func71 rfl (by decide) Tryz.ntmps71 Tryz.results71 rfl (aH _) ?_
 repeat' first|decide|refine go ?_
 unfold dx
 with_reducible refine sb (fun h=>?_) (fun h=>?_)<;>simp -implicitDefEqProofs (maxSteps:=5000000) only [HR,↓reduceIte,reduceCtorEq,Nat.reduceLT,Nat.reduceEqDiff,Nat.reduceAdd,Nat.reduceMul,Nat.reduceSub,Nat.reduceLeDiff,Nat.reduceBEq]<;>simp at h<;>simp [h]<;>omega
theorem Js (m:bb) (l:List Int) (hl:l.length<=1000000) (b:Bool) (hb:b=true ↔ ∀ i (h:i<l.length),dx l[i] m.attrs.length=true /\ ∀ j (h:j<i),l[j] ≠ l[i]):ax Tryz.prog 72 [.agg (aQ m),sI l] (val (.bool b)):=by
 refine aa ah Tryz.func72 rfl (by decide) Tryz.ntmps72 Tryz.results72 rfl (aH _) ?_
 repeat' first|decide|refine go ?_
 refine ae (fun st=>∃ k:Nat,k<=l.length /\ (∀ i (h:i<l.length),i<k -> dx l[i] m.attrs.length=true /\ ∀ j (h:j<i),l[j] ≠ l[i]) /\ st=⟨36,[(1,sI l),(2,.op 0 0 0),(5,eI k)],[(0,some (.box 32 (aQ m)))],1⟩) (fun st=>l.length - aq st 5)
  ⟨_,wC,0,Nv _,fun i h1 h2=>absurd h2 (by omega),rfl⟩ ?_
 rintro _ ⟨k,hk,hI,rfl⟩;by_cases hlt:k<l.length
 .repeat' first|decide|refine go ?_|simp only [ab,hlt]
  refine aA (by kernel_rfl) ?_
  repeat' first|decide|refine go ?_|simp only [ab,hlt]
  refine aL (rO _ _) ?_
  repeat' first|decide|refine go ?_|simp only [ab,hlt]
  with_reducible refine i8 (fun hin=>?_) (fun hin=>?_)<;>simp -implicitDefEqProofs (maxSteps:=5000000) only [HR,↓reduceIte,reduceCtorEq,Nat.reduceLT,Nat.reduceEqDiff,Nat.reduceAdd,Nat.reduceMul,Nat.reduceSub,Nat.reduceLeDiff,Nat.reduceBEq,ab,hlt]
  .simp at hin;symm;rw [OM];intro hbt;have:=(hb.1 hbt k hlt).1;rw [hin] at this;cases this
  .simp at hin
   refine ae (fun st=>∃ q:Nat,q<=k /\ (∀ j (h:j<k),j<q -> l[j] ≠ l[k]) /\ st=⟨36,[(1,sI l),(2,.op 0 0 0),(5,eI k),(6,eI q)],[(0,some (.box 32 (aQ m)))],1⟩) (fun st=>k - aq st 6)
    ⟨_,wC,0,Nv _,fun i h1 h2=>absurd h2 (by omega),rfl⟩ ?_
   rintro _ ⟨q,hq,hJ,rfl⟩;by_cases hqk:q<k
   .have hql:q<l.length:=by omega
    repeat' first|decide|refine go ?_|simp only [ab,hlt,hqk,hql]
    refine aA (by kernel_rfl) ?_
    repeat' first|decide|refine go ?_|simp only [ab,hlt,hqk,hql]
    with_reducible refine i8 (fun he=>?_) (fun he=>?_)<;>simp -implicitDefEqProofs (maxSteps:=5000000) only [HR,↓reduceIte,reduceCtorEq,Nat.reduceLT,Nat.reduceEqDiff,Nat.reduceAdd,Nat.reduceMul,Nat.reduceSub,Nat.reduceLeDiff,Nat.reduceBEq,ab,hlt,hqk,hql]
    .symm;rw [OM];intro hbt;exact (hb.1 hbt k hlt).2 q hqk (by simpa using he)
    .refine fa wC ⟨q+1,by omega,fun j h1 h2=>?_,rfl⟩ ?_
     .simp at he;rcases NP j q with h3|h3
      .exact hJ j h1 h3
      .obtain rfl:j=q:=by omega
       exact he
     .exact (by simp only [aq,ia,aj.get,aX,aj.put,↓reduceIte,reduceCtorEq,Nat.reduceLT,Nat.reduceEqDiff,Nat.reduceAdd,Nat.reduceLeDiff,eq_self,implies_true];omega)
   .repeat' first|decide|refine go ?_|simp only [ab,hlt,hqk]
    refine fa wC ⟨k+1,by omega,fun j h1 h2=>?_,rfl⟩ ?_
    .rcases NP j k with h3 | h3
     .exact hI j h1 h3
     .obtain rfl:j=k:=by omega
      exact ⟨hin,fun i hi=>hJ i hi (by omega)⟩
    .exact (by simp only [aq,ia,aj.get,aX,aj.put,↓reduceIte,reduceCtorEq,Nat.reduceLT,Nat.reduceEqDiff,Nat.reduceAdd,Nat.reduceLeDiff,eq_self,implies_true];omega)
 .repeat' first|decide|refine go ?_|simp only [ab,hlt]
  symm;exact hb.2 fun i h=>hI i h (by omega)
theorem u3 (a b:List Int) (ha:a.length<=1000000):ax Tryz.prog 29 [sI a,sI b] (val (.bool (decide (a=b)))):=by
 refine aa ah Tryz.func29 rfl (by decide) Tryz.ntmps29 Tryz.results29 rfl (aH _) ?_
 repeat' first|decide|refine go ?_
 with_reducible refine i8 (fun he=>?_) (fun he=>?_)<;>simp -implicitDefEqProofs (maxSteps:=5000000) only [HR,↓reduceIte,reduceCtorEq,Nat.reduceLT,Nat.reduceEqDiff,Nat.reduceAdd,Nat.reduceMul,Nat.reduceSub,Nat.reduceLeDiff,Nat.reduceBEq]
 .symm;rw [NQ];rintro rfl;simp at he
 have hl:a.length=b.length:=by simp at he;omega
 refine ae (fun st=>∃ k:Nat,k<=a.length /\ (∀ i (h:i<a.length) (h2:i<b.length),i<k -> a[i]=b[i]) /\ st=⟨26,[(0,sI a),(1,sI b),(5,eI (k:Int))],[],0⟩) (fun st=>a.length - aq st 5) ⟨_,wC,0,Nv _,?_,rfl⟩ ?_
 .exact fun i h h2 h3=>absurd h3 (by omega)
 rintro _ ⟨k,hk,hI,rfl⟩;by_cases hlt:k<a.length
 .have hlt2:k<b.length:=by omega
  repeat' first|decide|refine go ?_|simp only [ab,hlt,hlt2]
  refine aA (by kernel_rfl) ?_
  repeat' first|decide|refine go ?_|simp only [ab,hlt,hlt2]
  with_reducible refine i8 (fun hn=>?_) (fun hn=>?_)<;>simp -implicitDefEqProofs (maxSteps:=5000000) only [HR,↓reduceIte,reduceCtorEq,Nat.reduceLT,Nat.reduceEqDiff,Nat.reduceAdd,Nat.reduceMul,Nat.reduceSub,Nat.reduceLeDiff,Nat.reduceBEq,ab,hlt,hlt2]
  .symm;rw [NQ];rintro rfl;simp at hn
  .refine rI wC ⟨k+1,by omega,fun i h h2 h3=>?_,rfl⟩;rcases NP i k with h4|h4
   .exact hI i h h2 h4
   .obtain rfl:i=k:=by omega
    simpa using hn
 .repeat' first|decide|refine go ?_|simp only [ab,hlt]
  symm;rw [decide_eq_true_iff];exact OZ hl fun i h1 h2=>hI i h1 h2 (by omega)
end
section
theorem sG:∀ (n:Nat) (l:List Int),l.Nodup -> (∀ x ∈ l,0<=x /\ x<(n:Int)) -> l.length<=n:=by
 intro n
 induction n with
 | zero=>
  intro l _ h
  cases l with
  | nil=>simp
  | cons x l=>have:=h x (by simp);omega
 | succ n ih=>
  intro l hn h;by_cases hm:(n:Int) ∈ l
  .have h1:=ih (l.erase (n:Int)) (hn.erase _) (fun x hx=>by
    have:=(hn.mem_erase_iff).1 hx;have:=h x this.2;omega)
   rw [PJ hm] at h1;omega
  .have:=ih l hn (fun x hx=>by
    have h2:=h x hx;have:x ≠ (n:Int):=fun e=>hm (e ▸ hx);omega)
   omega
def gL (l:List Int) (i:Int):Prop:=0<=i /\ i<(l.length:Int)
instance (l:List Int) (i:Int):Decidable (gL l i):=by unfold gL;infer_instance
def qQ (l:List Int) (i:Int):Int:=if gL l i then i else -1
def kR (l:List Int) (i:Int):Int:=if gL l i then qQ l (l.getD i.toNat 0) else -1
def gz (l:List Int) (i:Int):Nat -> Int
 | 0=>qQ l i
 | k+1=>kR l (gz l i k)
def FD (l:List Int) (i:Int):Nat -> Int -> List Int -> List Int
 | 0,_,out=>out
 | f+1,p,out=>if kR l p = -1 \/ kR l p=i \/ kR l p ∈ out then out else FD l i f (kR l p) (out ++ [kR l p])
def eH (l:List Int) (i:Int):List Int:=FD l i l.length i []
theorem gS (l:List Int) (i:Int):(gL l i /\ qQ l i=i) \/ (¬ gL l i /\ qQ l i = -1):=by
 unfold qQ;split<;>simp [*]
theorem GN (l:List Int) (i:Int):qQ l i = -1 \/ gL l (qQ l i):=by
 rcases gS l i with ⟨h,e⟩|⟨_,e⟩<;>rw [e]
 .exact .inr h
 .exact .inl rfl
theorem Ju (l:List Int) (i:Int):kR l i = -1 \/ gL l (kR l i):=by
 unfold kR;split
 .exact GN _ _
 .exact .inl rfl
theorem uO (l:List Int) (i:Int):kR l (qQ l i)=kR l i:=by
 rcases gS l i with ⟨h,e⟩|⟨h,e⟩
 .rw [e]
 .rw [e];unfold kR;rw [Ny h,Ny (by simp [gL])]
theorem qY (l:List Int):kR l (-1) = -1:=by unfold kR;rw [Ny (by simp [gL])]
theorem wU (l:List Int) (i:Int) (k:Nat) (h:gz l i k = -1):∀ d,gz l i (k+d) = -1
 | 0=>h
 | d+1=>by rw [<- O6,gz,wU l i k h d,qY]
theorem tD (l:List Int) (i:Int):gz l i 1=kR l i:=uO l i
structure ov (l:List Int) (i:Int) (m:Nat) (p:Int) (out:List Int):Prop where
 len:out.length=m
 eq:∀ j,j<m -> out[j]? = some (gz l i (j+1))
 cur:kR l p=gz l i (m+1)
 nodup:out.Nodup
 at_:∀ x ∈ out,gL l x
 not:i ∉ out
 room:m<=l.length
 rest:FD l i (l.length - m) p out=eH l i
theorem ov.start (l:List Int) (i:Int):ov l i 0 i []:=
 ⟨rfl,fun j h=>by omega,(tD l i).symm,List.nodup_nil,fun x h=>by simp at h,by simp,by omega,rfl⟩
def my (l:List Int) (i:Int) (p:Int) (out:List Int):Prop:=kR l p = -1 \/ kR l p=i \/ kR l p ∈ out
instance (l:List Int) (i p:Int) (out:List Int):Decidable (my l i p out):=by unfold my;infer_instance
theorem ov.stop {l:List Int} {i:Int} {m:Nat} {p:Int} {out:List Int} (h:ov l i m p out) (hs:my l i p out):out=eH l i:=by
 rw [<- h.rest]
 cases l.length - m with
 | zero=>rfl
 | succ f=>rw [FD];exact (ND hs).symm
theorem ov.next {l:List Int} {i:Int} {m:Nat} {p:Int} {out:List Int} (h:ov l i m p out) (hs:¬ my l i p out):ov l i (m+1) (kR l p) (out ++ [kR l p]) /\ m+1<=l.length:=by
 unfold my at hs;simp only [not_or] at hs;have hat:gL l (kR l p):=(Ju l p).resolve_left hs.1
 have hnd:(out ++ [kR l p]).Nodup:=by
  rw [List.nodup_append];refine ⟨h.nodup,by simp,fun a ha b hb e=>?_⟩;simp at hb;subst hb;subst e;exact hs.2.2 ha
 have hall:∀ x ∈ out ++ [kR l p],gL l x:=by
  intro x hx;rcases NK.1 hx with hx|hx
  .exact h.at_ x hx
  .simp at hx;subst hx;exact hat
 have hlen:m+1<=l.length:=by
  have:=sG l.length _ hnd hall;simp [h.len] at this;exact this
 refine ⟨⟨by simp [h.len],fun j hj=>?_,by rw [show gz l i (m+1+1)=kR l (gz l i (m+1)) from rfl,h.cur],hnd,hall,?_,hlen,?_⟩,hlen⟩
 .by_cases hjm:j<m
  .rw [N1 (by rw [h.len];exact hjm)];exact h.eq j hjm
  .have:j=m:=by omega
   subst this;rw [NY (by rw [h.len];omega),h.len,Nat.sub_self];simp [h.cur]
 .intro hi;rcases NK.1 hi with hi|hi
  .exact h.not hi
  .simp at hi;exact hs.2.1 hi.symm
 .have:=h.rest;rw [show l.length - m=(l.length - (m+1))+1 from by omega,FD,Ny (by simp only [not_or];exact hs)] at this;exact this
theorem yc (l:List Int) (i:Int):∃ m p,ov l i m p (eH l i) /\ my l i p (eH l i):=by
 have key:∀ (f m:Nat) (p:Int) (out:List Int),ov l i m p out -> l.length+1 - m<=f -> ∃ m p,ov l i m p (eH l i) /\ my l i p (eH l i):=by
  intro f
  induction f with
  | zero=>intro m p out h hf;have:=h.room;omega
  | succ f ih=>
   intro m p out h hf;by_cases hs:my l i p out
   .have e:=h.stop hs;rw [e] at h hs;exact ⟨m,p,h,hs⟩
   .have:=(h.next hs).1;exact ih _ _ _ this (by omega)
 exact key _ 0 i [] (ov.start l i) (Nz _)
def nX (l:List Int) (i:Int):Prop:=gL l i /\ kR l (((eH l i).getLast?).getD i)=i
instance (l:List Int) (i:Int):Decidable (nX l i):=by unfold nX;infer_instance
theorem EP {l:List Int} {i:Int} {m:Nat} {p:Int} {out:List Int} (h:ov l i m p out):kR l ((out.getLast?).getD i)=gz l i (m+1):=by
 cases m with
 | zero=>
  have:out=[]:=Om h.len;subst this;exact (tD l i).symm
 | succ m=>
  have h1:=h.eq m (by omega);rw [List.getLast?_eq_getElem?,h.len,O9,h1];rfl
theorem Dj {l:List Int} {i:Int} {m:Nat} {p:Int} (h:ov l i m p (eH l i)) (hs:my l i p (eH l i)) (hc:gz l i (m+1) ≠ i \/ i = -1):∀ j,gz l i (j+1) = -1 \/ gz l i (j+1) ∈ eH l i:=by
 have hst:gz l i (m+1) = -1 \/ gz l i (m+1) ∈ eH l i:=by
  rw [<- h.cur];rcases hs with hs|hs|hs
  .exact .inl hs
  .rw [h.cur] at hs;rcases hc with hc|hc
   .exact absurd hs hc
   .rw [h.cur,hs,hc];exact .inl rfl
  .exact .inr hs
 intro j
 induction j with
 | zero=>
  cases m with
  | zero=>exact hst
  | succ m=>exact .inr (Nr (h.eq 0 (by omega)))
 | succ j ih=>
  rcases ih with ih|ih
  .left;rw [gz,ih,qY]
  .obtain ⟨a,ha⟩:=List.mem_iff_getElem?.1 ih;have ham:a<m:=by rw [<- h.len];exact (Nw.1 ha).1
   rw [h.eq a ham] at ha
   have e:gz l i (j+1+1)=gz l i (a+1+1):=by
    show kR l (gz l i (j+1))=kR l (gz l i (a+1));rw [OX ha]
   rw [e];by_cases ham2:a+1<m
   .exact .inr (Nr (h.eq (a+1) ham2))
   .have:a+1=m:=by omega
    rw [this];exact hst
theorem tA {l:List Int} {i:Int} {x:Int} (hx:x ∈ eH l i):∃ j,1<=j /\ j<=l.length /\ gz l i j=x:=by
 obtain ⟨m,p,h,_⟩:=yc l i;obtain ⟨a,ha⟩:=List.mem_iff_getElem?.1 hx;have ham:a<m:=by rw [<- h.len];exact (Nw.1 ha).1
 rw [h.eq a ham] at ha;exact ⟨a+1,by omega,by have:=h.room;omega,OX ha⟩
theorem s9 (l:List Int) (i x:Int) (hx:0<=x) (hne:i ≠ x):x ∈ eH l i ↔ ∃ j,1<=j /\ j<=l.length /\ gz l i j=x:=by
 refine ⟨tA,fun ⟨j,h1,h2,h3⟩=>?_⟩;obtain ⟨m,p,h,hs⟩:=yc l i;by_cases hc:gz l i (m+1)=i
 .
  have key:∀ j,gz l i (j+1) ∈ eH l i \/ gz l i (j+1)=i \/ gz l i (j+1) = -1:=by
   intro j
   induction j with
   | zero=>
    cases m with
    | zero=>exact .inr (.inl hc)
    | succ m=>exact .inl (Nr (h.eq 0 (by omega)))
   | succ j ih=>
    rcases ih with ih|ih|ih
    .obtain ⟨a,ha⟩:=List.mem_iff_getElem?.1 ih;have ham:a<m:=by rw [<- h.len];exact (Nw.1 ha).1
     rw [h.eq a ham] at ha
     have e:gz l i (j+1+1)=gz l i (a+1+1):=by
      show kR l (gz l i (j+1))=kR l (gz l i (a+1));rw [OX ha]
     rw [e];by_cases ham2:a+1<m
     .exact .inl (Nr (h.eq (a+1) ham2))
     .have:a+1=m:=by omega
      rw [this];exact .inr (.inl hc)
    .have e:gz l i (j+1+1)=gz l i 1:=by
      show kR l (gz l i (j+1))=gz l i 1;rw [ih,tD]
     rw [e]
     cases m with
     | zero=>exact .inr (.inl hc)
     | succ m=>exact .inl (Nr (h.eq 0 (by omega)))
    .right;right;rw [gz,ih,qY]
  have:=key (j - 1);rw [show j - 1+1=j from by omega,h3] at this;rcases this with this|this|this
  .exact this
  .exact absurd this.symm hne
  .omega
 .have:=Dj h hs (.inl hc) (j - 1);rw [show j - 1+1=j from by omega,h3] at this;rcases this with this|this
  .omega
  .exact this
theorem Fi (l:List Int) (i:Int) (hi:gL l i):nX l i ↔ ∃ j,1<=j /\ j<=l.length /\ gz l i j=i:=by
 obtain ⟨m,p,h,hs⟩:=yc l i;unfold nX;rw [EP h];refine ⟨fun hh=>⟨m+1,by omega,?_,hh.2⟩,fun ⟨j,h1,h2,h3⟩=>⟨hi,?_⟩⟩
 .have hnd:(i :: eH l i).Nodup:=List.nodup_cons.2 ⟨h.not,h.nodup⟩
  have:=sG l.length _ hnd (fun x hx=>by
   rcases OD.1 hx with rfl|hx
   .exact hi
   .exact h.at_ x hx)
  simp [h.len] at this;omega
 .by_cases hc:gz l i (m+1)=i
  .exact hc
  .have:=Dj h hs (.inl hc) (j - 1);rw [show j - 1+1=j from by omega,h3] at this;rcases this with this|this
   .have:=hi.1;omega
   .exact absurd this h.not
def jJ (l:List Int):Int:=(((List.range l.length).find? fun (i:Nat)=>decide (nX l (i:Int))).map fun (i:Nat)=>(i:Int)).getD (-1)
def ud (l:List Int) (i:Int):List Int:=if gL l i then (((List.range l.length).filter fun (k:Nat)=>decide ((k:Int) ≠ i /\ i ∈ eH l (k:Int))).map fun (k:Nat)=>(k:Int)) else []
def Hm (l:List Int) (a i:Int):Prop:=∃ j,1<=j /\ j<=l.length /\ 0<=a /\ gz l i j=a
end
section
open Go.ChangeShapes Go.WideShapes Go.ChangeAt Go.RowKit
theorem J8:ownKnob Tryz.prog.godebug=none:=by kernel_rfl
theorem HE:laidOutB Tryz.prog=true:=by kernel_rfl
theorem GJ:Tryz.prog.underlying 4=some .bool:=Tryz.underlying4
theorem lw {H:Type} {enc:TypeId × Value -> H} {P:Program} (hl:laidOutB P=true) {W W':World} (hb:Below W.heap.size W W') (sp:Nat -> Bool) :
  ∀ {ts:List TypeId} {vs:List Value} {ds:List (DataW H)} {ps:List MemPlace},(ts.all fun t=>P.readableRec t && decide (t<P.types.size))=true ->
   DataW.TrodAll enc P W 0 (fun _=>true) true ts vs ds ps -> (∀ x ∈ ps,x.block<W.heap.size) -> (∀ p ∈ ps,sp p.block=true) -> DataW.TrodAll enc P W' 0 sp true ts vs ds ps
 | [],[],[],_,_,h,_,_=>h
 | t :: ts,v :: vs,d :: ds,ps,ht,h,hlt,hs=>by
  obtain ⟨p,q,h1,h2,rfl⟩:=h;simp only [List.all_cons,NU,NW] at ht;refine ⟨p,q,WideElems.Trod_stays hl ht.1.1 ht.1.2 h1 (fun x hx=>hb.same (hlt x (NK.2 (.inl hx)))) (fun x hx=>hs x (NK.2 (.inl hx))),?_,rfl⟩;exact lw hl hb sp (by simpa using ht.2) h2 (fun x hx=>hlt x (NK.2 (.inr hx))) (fun x hx=>hs x (NK.2 (.inr hx)))
 | [],[],_ :: _,_,_,h,_,_=>h.elim
 | [],_ :: _,_,_,_,h,_,_=>h.elim
 | _ :: _,[],_,_,_,h,_,_=>h.elim
 | _ :: _,_ :: _,[],_,_,h,_,_=>h.elim
theorem B4 {H:Type} {enc:TypeId × Value -> H} {f:Func} {s:ChangeSpec} {fid:FuncId} {W:World} {args:Array Value} {ds gs:List (DataW H)} {before:List MemPlace}
  (hts:(f.params.toList.all fun t=>Tryz.prog.readableRec t && decide (t<Tryz.prog.types.size))=true) (hrt:f.resultTypes = #[4]) (hsv:s.vars=[])
  (hW:DataW.Whole enc Tryz.prog f.params.toList s.vars false W args.toList ds gs before)
  (hfn:∀ gs',gs'=[] -> s.fn H (ds ++ gs')={ results:=[.lit (.bool true)],args:=ds })
  (hc:Calls Tryz.prog fid args W fun e W'=>e=.returned (.bool true) /\ Below W.heap.size W W') :
  Calls Tryz.prog fid args W fun e W'=>∃ v,e=.returned v /\ s.post enc Tryz.prog f false true false false W args v W':=by
 refine hc.mono fun e W' ⟨he,hb⟩=>⟨_,he,?_⟩;have hW':=hW;obtain ⟨p,q,hA,hV,rfl,hfz,hnd⟩:=hW;rw [hsv] at hV;obtain ⟨rfl,rfl⟩:=trodVars_none hV;have hlt:∀ x ∈ p,x.block<W.heap.size:=fun x hx=>hW'.lt x (NK.2 (.inl hx));have e1:=hfn [] rfl;refine ⟨ds,[],p ++ [],[],p,[],hW',?_,?_,?_,hb.frame _,fun h=>by cases h⟩
 .rw [e1,hrt];exact trodAll_mk1 (shut_bool GJ true)
 .rw [e1];exact lw HE hb _ hts hA hlt (fun x hx=>by simpa using hlt x hx)
 .rw [e1,hsv];rfl
end
section
def RI (w:World) (v:Value) (l:List Int):Prop:=(aV (eZ .i64)).one w (fun b=>b<w.heap.size) v l
theorem RI.form {w:World} {v:Value} {l:List Int} (h:RI w v l):∃ A c,v=.slice A l.length c /\ l.length<=c:=by
 obtain ⟨A,c,h1,h2,_⟩:=fX h;exact ⟨A,c,h1,h2⟩
theorem RI.at_ {w:World} {A:Option Addr} {n c:Nat} {l:List Int} (h:RI w (.slice A n c) l) {k:Nat} (hk:k<l.length) :
  ∃ b o,A=some ⟨b,o,none⟩ /\ w.cell? ⟨b,o+k,none⟩=some (.int .i64 (l.getD k 0)) /\ -9223372036854775808<=l.getD k 0 /\ l.getD k 0<=9223372036854775807:=by
 obtain ⟨b,o,rfl,hb,_⟩:=jX h (by omega);have:=Gz h hk;rw [List.getD,Nq hk];exact ⟨b,o,rfl,this⟩
end
section
theorem zE {w:World} {S:Nat -> Prop} {v:Value} {l:List Int} (h:RT w S v (sI l)) (hS:HJ w S) (hl:∀ x ∈ l,aB x):RI w v l:=by
 obtain ⟨A,cap,rfl,hc,hm,_,hA⟩:=h.sl_inv;refine ⟨A,cap,by simp,by simpa using hc,hm,fun h0=>?_⟩;obtain ⟨b,o,rfl,hb,U,hcell,hr,_⟩:=hA (by simpa using h0);refine ⟨b,o,rfl,hS b hb,fun i hi=>⟨[.int .i64 l[i]],fun j u hu=>?_,rfl,?_⟩⟩
 .have h1:(l.map fun n=>[eI n])[i]? = some [eI l[i]]:=by simp [hi]
  have h2:=hcell i 0 _ _ h1 rfl;have h3:=L8 (hr i 0 _ _ h1 rfl)
  cases j with
  | zero=>
   simp at hu;subst hu;rw [h3] at h2;simpa [eZ] using h2
  | succ j=>simp at hu
 .have:=hl _ (Nt hi);exact B2 this.1 this.2
theorem aU {r av:AV} {st:aj} (h:r.ren []=av):dw ⟨r,[],0⟩ st av:=⟨[],List.nodup_nil,h,trivial⟩
theorem uT {l:List (Bool × Int)}:∀ row ∈ l.map uK,∀ av ∈ row,av.plain:=fun row hr av ha=>by
 obtain ⟨n,_,rfl⟩:=NC.1 hr;simp at ha;rcases ha with rfl|rfl<;>trivial
theorem CJ : (Tryz.prog.fieldsOf 154).toList.map (fun f => (f.name, f.type, f.offset)) = [("Mile", 4, 0), ("N", 3, 1)] := by kernel_rfl
theorem Bl (op:BinOp) (hop:op=.eql \/ op=.neq) (a b:Bool × Int):qT Tryz.prog op 154 (.agg #[.bool a.1,.int .i64 a.2]) (.agg #[.bool b.1,.int .i64 b.2]) (.bool (if op matches .eql then (a.1 == b.1 && a.2 == b.2) else !(a.1 == b.1 && a.2 == b.2))):=by
 have ht:=CJ
 obtain ⟨f,g,hfs⟩:∃ f g,(Tryz.prog.fieldsOf 154).toList=[f,g]:=by
  generalize (Tryz.prog.fieldsOf 154).toList=l at ht ⊢
  cases l with
  | nil=>simp at ht
  | cons f l=>cases l with
   | nil=>simp at ht
   | cons g l=>cases l with
    | nil=>exact ⟨f,g,rfl⟩
    | cons h l=>simp at ht
 rw [hfs] at ht;simp only [Oz,N3,Pr,Prod.mk.injEq,and_true] at ht;obtain ⟨⟨h1,h2,h3⟩,h4,h5,h6⟩:=ht;refine sr [(.bool a.1,.bool b.1),(.int .i64 a.2,.int .i64 b.2)] (by kernel_rfl) (by kernel_rfl) (by kernel_rfl) (by rw [hfs];rfl) (fun k f' p hk hp=>?_) (by simp [ld,qa]) hop;rw [hfs] at hk
 match k,hk,hp with
 | 0,hk,hp=>
  cases hk;cases hp;refine ⟨by rw [h1];decide,?_,by rw [h3];rfl,by rw [h3];rfl⟩;rw [h2]
  kernel_rfl
 | 1,hk,hp=>
  cases hk;cases hp;refine ⟨by rw [h4];decide,?_,by rw [h6];rfl,by rw [h6];rfl⟩;rw [h5]
  kernel_rfl
 | k+2,hk,hp=>simp at hk
end
section
def MD (l:List UInt8):Nat:=l.foldl (fun n d=>n * 10+(d.toNat - 48)) 0
theorem kW {d:Nat} (h:d<=9):(UInt8.ofNat (48+d)).toNat=48+d:=by
 rw [UInt8.toNat_ofNat'];omega
theorem nk:∀ (k u:Nat),u<=k -> MD (Lib.decDigits u)=u /\ (∀ d ∈ Lib.decDigits u,48<=d.toNat /\ d.toNat<=57) /\ Lib.decDigits u ≠ []
 | 0,u,h=>by
  obtain rfl:u=0:=by omega
  rw [Lib.decDigits,dif_pos (by omega)];refine ⟨rfl,fun d hd=>?_,by simp⟩;rw [NR] at hd;subst hd;decide
 | k+1,u,h=>by
  rw [Lib.decDigits];split
  .rename_i hu;refine ⟨?_,fun d hd=>?_,by simp⟩
   .show 0 * 10+((UInt8.ofNat (48+u)).toNat - 48)=u;rw [kW (by omega)];omega
   .rw [NR] at hd;subst hd;rw [kW (by omega)];omega
  .rename_i hu;obtain ⟨h1,h2,h3⟩:=nk k (u / 10) (by omega);refine ⟨?_,fun d hd=>?_,by simp⟩
   .unfold MD at h1 ⊢;rw [OI,h1];show u / 10 * 10+((UInt8.ofNat (48+u % 10)).toNat - 48)=u;rw [kW (by omega)];omega
   .rcases NK.1 hd with hd | hd
    .exact h2 d hd
    .rw [NR] at hd;subst hd;rw [kW (by omega)];omega
theorem z8 {u v:Nat} (h:Lib.decDigits u=Lib.decDigits v):u=v:=by
 have h1:=(nk u u (Nz _)).1;have h2:=(nk v v (Nz _)).1;rw [h] at h1;exact h1.symm.trans h2
theorem qS {n m:Int} (h:Lib.itoa n=Lib.itoa m):n=m:=by
 unfold Lib.itoa at h
 have no:∀ (u:Nat) (l:List UInt8),Lib.decDigits u ≠ 45 :: l:=fun u l he=>by
  have h2:=(nk u u (Nz _)).2.1 45 (by rw [he];exact Ob ..);have:(45:UInt8).toNat=45:=rfl;omega
 split at h<;>split at h
 .rw [Pr] at h;have:=z8 h.2;omega
 .exact absurd h.symm (no _ _)
 .exact absurd h (no _ _)
 .have:=z8 h;omega
theorem kT (n:Int):(∀ d ∈ Lib.itoa n,d ≠ 32) /\ Lib.itoa n ≠ []:=by
 have key:∀ u:Nat,(∀ d ∈ Lib.decDigits u,d ≠ 32) /\ Lib.decDigits u ≠ []:=fun u=>by
  obtain ⟨_,h2,h3⟩:=nk u u (Nz _)
  exact ⟨fun d hd e=>by
   have:=h2 d hd;rw [e] at this;have e2:(32:UInt8).toNat=32:=rfl;omega,h3⟩
 unfold Lib.itoa;split
 .refine ⟨fun d hd=>?_,by simp⟩;rcases OD.1 hd with rfl|hd
  .decide
  .exact (key _).1 d hd
 .exact key _
theorem w8 {x y a b:List UInt8} (hx:∀ d ∈ x,d ≠ 32) (hy:∀ d ∈ y,d ≠ 32) (ha:a=[] \/ ∃ l,a=32 :: l) (hb:b=[] \/ ∃ l,b=32 :: l) (h:x ++ a=y ++ b):x=y /\ a=b:=by
 induction x generalizing y with
 | nil=>
  cases y with
  | nil=>exact ⟨rfl,h⟩
  | cons d y=>
   rcases ha with rfl|⟨l,rfl⟩
   .simp at h
   .simp only [Pf,OS,Pr] at h;exact absurd h.1.symm (hy d (Ob ..))
 | cons c x ih=>
  cases y with
  | nil=>
   rcases hb with rfl|⟨l,rfl⟩
   .simp at h
   .simp only [Pf,OS,Pr] at h;exact absurd h.1 (hx c (Ob ..))
  | cons d y=>
   simp only [OS,Pr] at h;obtain ⟨h1,h2⟩:=ih (fun e he=>hx e (N7 _ he)) (fun e he=>hy e (N7 _ he)) h.2;exact ⟨by rw [h.1,h1],h2⟩
theorem kG (r:List (List UInt8)):Lib.joinTail [32] r=[] \/ ∃ l,Lib.joinTail [32] r=32 :: l:=by
 cases r with
 | nil=>exact .inl rfl
 | cons x r=>exact .inr ⟨x ++ Lib.joinTail [32] r,rfl⟩
theorem u0:∀ (r s:List (List UInt8)),(∀ x ∈ r,∀ d ∈ x,d ≠ 32) -> (∀ x ∈ s,∀ d ∈ x,d ≠ 32) -> Lib.joinTail [32] r=Lib.joinTail [32] s -> r=s
 | [],[],_,_,_=>rfl
 | [],y :: s,_,_,h=>by
  have:Lib.joinTail [32] (y :: s)=32 :: (y ++ Lib.joinTail [32] s):=rfl;rw [this] at h;cases h
 | x :: r,[],_,_,h=>by
  have:Lib.joinTail [32] (x :: r)=32 :: (x ++ Lib.joinTail [32] r):=rfl;rw [this] at h;cases h
 | x :: r,y :: s,hr,hs,h=>by
  have e1:Lib.joinTail [32] (x :: r)=32 :: (x ++ Lib.joinTail [32] r):=rfl;have e2:Lib.joinTail [32] (y :: s)=32 :: (y ++ Lib.joinTail [32] s):=rfl;rw [e1,e2,Pr] at h;obtain ⟨h1,h2⟩:=w8 (hr x (Ob ..)) (hs y (Ob ..)) (kG r) (kG s) h.2;rw [h1,u0 r s (fun z hz=>hr z (N7 _ hz)) (fun z hz=>hs z (N7 _ hz)) h2]
def gT (l:List Int):List UInt8:=Lib.join (l.map Lib.itoa) [32]
theorem fK (n:Int) (l:List Int):gT (n :: l)=Lib.itoa n ++ Lib.joinTail [32] (l.map Lib.itoa):=by
 unfold gT;rw [Oz,Lib.join_cons]
theorem BT {n m:Int} {l k:List Int} (h:gT (n :: l)=gT (m :: k)):n :: l=m :: k:=by
 rw [fK,fK] at h;obtain ⟨h1,h2⟩:=w8 (kT n).1 (kT m).1 (kG _) (kG _) h;have h3:=u0 _ _ (fun x hx=>by obtain ⟨z,_,rfl⟩:=NC.1 hx;exact (kT z).1) (fun x hx=>by obtain ⟨z,_,rfl⟩:=NC.1 hx;exact (kT z).1) h2;rw [qS h1,(List.map_inj_right fun x y hxy=>qS hxy).1 h3]
end
section
theorem yM (w:World) (k:Nat) (os:Array Obj):Below w.heap.size w (Sort.grow (w.drewN k) os):=
 ⟨rfl,rfl,rfl,by simp,fun i hi=>by rw [Sort.heap_grow_old _ _ (by simpa using hi)];rfl⟩
theorem BV (n:Int) (w:World) (h:-9223372036854775808<=n /\ n<=9223372036854775807) (htab:Mc w) :
  Calls Tryz.prog 41 #[.int .i64 n] w fun e w'=>e=.returned (.string ⟨(Lib.itoa n).toArray⟩) /\ Below w.heap.size w w':=by
 have hfi:=Tryz.internal_strconv_FormatInt_10 n h.1 h.2 w htab;have Hfi:=jO hfi;clear hfi
 go_enter Tryz.func41,Tryz.ntmps41
 go_wp2_with (first
  | (go_at_call 138;refine Hfi.out.mono ?_;rintro e w2 ⟨rfl,k,os,rfl⟩)
  | go_in)
 go_ret
 exact ⟨rfl,yM _ _ _⟩
def mn (n:Int):ByteArray:=⟨(Lib.itoa n).toArray⟩
theorem ux (n:Int) (h:aB n):ax Tryz.prog 41 [eI n] (val (.string (mn n))):=
 iK (jc Tryz.func41 rfl (by decide)) fun S w vs hS hn hv=>by
  have hn1:vs.size=1:=hn;obtain ⟨a,rfl⟩:∃ a,vs = #[a]:=⟨vs[0],by apply Array.ext (by simpa using hn1);intro i h1 h2;simp at h2;subst h2;rfl⟩;obtain rfl:=L8 (hv 0 a _ rfl rfl);exact BV n w h hS.amb.tab
end
section
section
variable {P:Program} {cx:Cx} {a:Act} {w w' w'':World} {st:aj} {tab tab' tab'':af} {L L' L'':Nat -> Value} {nx nx' nx'':Nat}
theorem bH (st:aj) (d:Option Nat) (av:AV):(st.put d av).tab=st.tab:=by cases d<;>rfl
theorem bp (st:aj) (d:Option Nat) (av:AV):(st.put d av).next=st.next:=by cases d<;>rfl
theorem nQ (h:aG cx a w st L) (hb:Below w.heap.size w w') {v:Value} {ob:aE} (hnew:∀ g,aF v=some g -> w.heap.size<=g):Fr cx w st.tab L st.next w' ((st.next,some ob) :: st.tab) (a6 L st.next v) (st.next+1):=
 nB (fun id o hid=>(h.young id o hid).1) hb (fun id hid=>by unfold a6;rw [af.gc,Ny (by omega),Ny (by omega)];exact ⟨rfl,rfl⟩)
  (fun id o g h1 h2 h3=>by
   rw [af.gc] at h2;unfold a6 at h3;split at h2
   .rename_i e;rw [ND e] at h3;exact hnew g h3
   .have:=(h.young id o h2).1;omega) (Oc _)
theorem qm {id:Nat} {o o':aE} (hid:st.tab.get id=some o) (hsz:o'.sz=o.sz) (hs:w'.heap.size=w.heap.size) (hb:∀ k,aF (L id) ≠ some k -> w'.heap[k]? = w.heap[k]?):Fr cx w st.tab L st.next w' ((id,some o') :: st.tab) L st.next:=by
 have hget:∀ k ok,af.get ((id,some o') :: st.tab) k=some ok -> ∃ ok',st.tab.get k=some ok' /\ ok.sz=ok'.sz:=fun k ok hk=>by
  rw [af.gc] at hk;split at hk
  .rename_i e;cases hk;exact ⟨o,by rw [e];exact hid,hsz⟩
  .exact ⟨ok,hk,rfl⟩
 refine ⟨⟨fun b hb'=>hb b (hb'.2.2 id o hid),fun b hb'=>⟨by rw [hs];exact hb'.1,hb'.2.1,fun k ok hk=>?_⟩,fun k p _ hk=>?_⟩,by rw [hs];exact Nz _,fun k hk hn=>hb k (hn id o hid),fun k ok g h1 h2 _=>?_,Nz _⟩
 .obtain ⟨ok',h1,_⟩:=hget k ok hk;exact hb'.2.2 k ok' h1
 .unfold Kx at *
  cases ho:af.get ((id,some o') :: st.tab) k with
  | none=>simp [ho] at hk
  | some ok=>
   obtain ⟨ok',h1,h2⟩:=hget k ok ho;rw [h1];simpa [ho,h2] using hk
 .obtain ⟨ok',h3,_⟩:=hget k ok h1;exact ⟨k,ok',h3,h2⟩
theorem FK (h:aG cx a w st L) {v v':Value} {oid:Option Nat} {ob:aE} (hg:w.grownBy w' v.ownBlock) (hv:aF v'=v.ownBlock \/ aF v'=some w.heap.size)
  (hown:∀ g,v.ownBlock=some g -> ∃ id,oid=some id /\ aF (L id)=some g) (hoid:∀ id,oid=some id -> ∃ o,st.tab.get id=some o):Fr cx w st.tab L st.next w' (bw st.tab st.next oid ob) (a6 L st.next v') (st.next+1):=by
 have hnot:∀ k,(∀ id o,st.tab.get id=some o -> aF (L id) ≠ some k) -> some k ≠ v.ownBlock:=fun k hn e=>by
  obtain ⟨id,h1,h2⟩:=hown k e.symm;obtain ⟨o,h3⟩:=hoid id h1;exact hn id o h3 h2
 have hget:∀ k ok,(bw st.tab st.next oid ob).get k=some ok -> k=st.next \/ (k<st.next /\ st.tab.get k=some ok):=fun k ok hk=>by
  rw [bn] at hk;split at hk
  .exact .inl (by assumption)
  .split at hk
   .cases hk
   .exact .inr ⟨(h.young k ok hk).1,hk⟩
 refine ⟨⟨fun b hb=>hg.block b hb.1 (hnot b hb.2.2),fun b hb=>⟨NH hb.1 hg.size,hb.2.1,fun k ok hk=>?_⟩,fun k p hlt hk=>?_⟩,hg.size,fun k hk hn=>hg.block k hk (hnot k hn),fun k ok g h1 h2 hlt=>?_,Oc _⟩
 .unfold a6;rcases hget k ok hk with rfl|⟨hlt,ho⟩
  .rw [ND rfl];rcases hv with hv|hv
   .rw [hv];exact fun e=>hnot b hb.2.2 e.symm
   .rw [hv];intro e;cases e;exact absurd hb.1 (by omega)
  .rw [Ny (by omega)];exact hb.2.2 k ok ho
 .unfold Kx a6 at *;rw [Ny (by omega)] at hk
  cases ho:(bw st.tab st.next oid ob).get k with
  | none=>simp [ho] at hk
  | some ok=>
   rcases hget k ok ho with rfl|⟨_,h1⟩
   .omega
   .rw [h1];rw [ho] at hk;exact hk
 .unfold a6 at h2;rcases hget k ok h1 with rfl|⟨hlt',ho⟩
  .rw [ND rfl] at h2;rcases hv with hv|hv
   .rw [hv] at h2;obtain ⟨id,h3,h4⟩:=hown g h2;obtain ⟨o,h5⟩:=hoid id h3;exact ⟨id,o,h5,h4⟩
   .rw [hv] at h2;cases h2;omega
  .rw [Ny (by omega)] at h2;exact ⟨k,ok,ho,h2⟩
abbrev x6 (cx:Cx) (a:Act) (w:World) (st:aj) (L:Nat -> Value) (K:aj -> Prop):Act -> World -> Prop:=fun a' w'=>∃ st' L',K st' /\ aG cx a' w' st' L' /\ Fr cx w st.tab L st.next w' st'.tab L' st'.next /\ a'.defers=a.defers
theorem aW (a:Act) (d:Option Nat) (v:Value):(a.put d v).defers=a.defers:=by cases d<;>rfl
theorem nC {o:Oper} {K:aj -> Prop} {Q:Exit -> Act -> World -> Prop} (h:aG cx a w st L) (hp:bW P st.tab (a5 st) o.op (aK st o.dst K)):o.wp P a w (x6 cx a w st L K) Q:=by
 obtain ⟨v,av,h1,h2,h3,h4,_⟩:=jw h.lay (fun id o hid=>(h.young id o hid).2) (ak h) hp;exact aI (h4 w (Below.refl _ _)) ⟨_,L,h1,ba h h2 h3 o.dst,(by rw [bH,bp];exact Fr.refl),aW _ _ _⟩
def MX (o:Oper):Bool:=match o.op with
 | .defer _=>false
 | _=>true
theorem qL {id:Nat} {o ob:aE} {v':Value} (h:aG cx a w st L) (hid:st.tab.get id=some o) (hv:aF v'=aF (L id)):Fr cx w st.tab L st.next w (bw st.tab st.next (some id) ob) (a6 L st.next v') (st.next+1):=by
 have hget:∀ k ok,(bw st.tab st.next (some id) ob).get k=some ok -> k=st.next \/ (k<st.next /\ st.tab.get k=some ok):=fun k ok hk=>by
  rw [bn] at hk;split at hk
  .exact .inl (by assumption)
  .split at hk
   .cases hk
   .exact .inr ⟨(h.young k ok hk).1,hk⟩
 refine ⟨⟨fun _ _=>rfl,fun b hb=>⟨hb.1,hb.2.1,fun k ok hk=>?_⟩,fun k p hlt hk=>?_⟩,Nz _,fun _ _ _=>rfl,fun k ok g h1 h2 _=>?_,Oc _⟩
 .unfold a6;rcases hget k ok hk with rfl|⟨hlt,ho⟩
  .rw [ND rfl,hv];exact hb.2.2 id o hid
  .rw [Ny (by omega)];exact hb.2.2 k ok ho
 .unfold Kx a6 at *;rw [Ny (by omega)] at hk
  cases ho:(bw st.tab st.next (some id) ob).get k with
  | none=>simp [ho] at hk
  | some ok=>
   rcases hget k ok ho with rfl|⟨_,h1⟩
   .omega
   .rw [h1];rw [ho] at hk;exact hk
 .unfold a6 at h2;rcases hget k ok h1 with rfl|⟨hlt',ho⟩
  .rw [ND rfl,hv] at h2;exact ⟨id,o,hid,h2⟩
  .rw [Ny (by omega)] at h2;exact ⟨k,ok,ho,h2⟩
theorem xJ {t:TypeId} {x:Operand} {lo hi mx:Option Operand} {K:aj -> Prop} {Q:Exit -> Act -> World -> Prop} {ty:TypeId} {dst:Option Nat} {pos:String} {aft:Array Edge} {gd:Option (Nat × Bool)} (h:aG cx a w st L)
  (hp:jK P t st (a5 st x) (lo.map (a5 st)) (hi.map (a5 st)) (mx.map (a5 st)) dst K):Oper.wp (P:=P) ⟨dst,.slice t x lo hi mx,ty,pos,aft,gd⟩ a w (x6 cx a w st L K) Q:=by
 unfold jK at hp;split at hp
 .rename_i id hx;have hv:=(ak h x).1;rw [hx] at hv;split at hp
  .rename_i e sz rows hid;unfold mQ at hp;split at hp
   .rename_i l h' hl hh;obtain ⟨⟨h1,h2⟩,⟨rfl,h4,h5,h6⟩,h7⟩:=hp;obtain ⟨hu,hsz⟩:=gX (P:=P) (t:=t) (by omega);have hvL:=hv.osl_inv _ _ (cD hid);obtain ⟨hrow,xs,hown,hone,hx'⟩:=h.lay.objs id _ hid;have hs:=cP (P:=P) (t:=(bf P t).1) (by omega) w;rw [hsz,h1] at hs
    have key:∀ A cap,L id=.slice A rows.length cap -> rows.length<=cap -> ∃ m,h'.toNat<=m /\ m<=cap /\ (Instr.sliceBounds true rows.length cap (lo.map a.eval) (hi.map a.eval) (mx.map a.eval)).run P w=.ok (0,h'.toNat,m) w:=by
     intro A cap hL hc;have hlo:=oL (d:=0) (n:=0) (fun x=>(ak h x).1) hl (by omega) rfl;have hhi:=oL (d:=rows.length) (n:=h'.toNat) (fun x=>(ak h x).1) hh (by omega) rfl
     cases mx with
     | none=>exact ⟨cap,by omega,Nz _,fP hlo hhi (.inl ⟨rfl,rfl⟩) (by omega) (by omega)⟩
     | some q=>
      have hq:=(ak h q).1;simp only [N9] at h6 ⊢;unfold AU at h6;split at h6
      .rename_i hq';cases hq'
      .rename_i k m hq'
       injection hq' with hq'
       rw [hq'] at hq;obtain ⟨rfl,hb⟩:=h6;refine ⟨m.toNat,Nz _,by omega,fP hlo hhi (.inr ⟨rfl,⟨k,by rw [hq.c_inv,OT h4]⟩,fun hn=>?_⟩) (by omega) (by omega)⟩
       cases hi with
       | none=>simp at hb
       | some _=>cases hn
      .exact h6.elim
    rcases hown.2 with ⟨hL,h0⟩|⟨g,cap,cur,hL,hb,hh',hc,hm,hcs,htake⟩
    .obtain ⟨m,hm1,hm2,hr⟩:=key none 0 (by rw [hL,h0]) (by omega);have hm0:m=0:=(by omega);have hn0:h'.toNat=0:=(by omega);refine aI (v:=.slice none 0 0) ?_ ⟨_,_,h7,jP (n:=h'.toNat) h hid (by omega) (.inl ⟨hL,rfl⟩) dst,(by rw [bH,bp];exact qL h hid (by rw [hL])),aW _ _ _⟩;rw [h0] at hr;simp [execOp,Sem.run_bind,hvL,hL,Instr.sliceAt,Instr.slice,run_underlying hu,hr,hs,hm0,hn0]
    .obtain ⟨m,hm1,hm2,hr⟩:=key _ cap hL hc;refine aI (v:=.slice (some ⟨g,0,none⟩) h'.toNat m) ?_ ⟨_,_,h7,jP (n:=h'.toNat) h hid (by omega) (.inr ⟨g,cap,m,hL,rfl,hm1,hm2⟩) dst,(by rw [bH,bp];exact qL h hid (by rw [hL];rfl)),aW _ _ _⟩;simp [execOp,Sem.run_bind,hvL,hL,Instr.sliceAt,Instr.slice,run_underlying hu,hr,hs,Addr.add_lit]
   .exact hp.elim
  .exact hp.elim
 .exact nC (o:=⟨dst,.slice t x lo hi mx,ty,pos,aft,gd⟩) h (by exact hp)
theorem Jg {o:Oper} {K:aj -> Prop} {Q:Exit -> Act -> World -> Prop} (h:aG cx a w st L) (hp:j1 P o K st) (hf:MX o=true):o.wp P a w (x6 cx a w st L K) Q:=by
 obtain ⟨dst,op,ty,pos,aft,gd⟩:=o;unfold j1 at hp;simp only at hp;split at hp
 .rename_i t x;obtain ⟨h1,h2⟩:=hp;have he:=ak h x;obtain ⟨h3,h4⟩:=nK (P:=P) (t:=t) h he.1 he.2 h1 dst;exact aI (by simp [execOp,Sem.run_bind,h3]) ⟨_,_,h2,h4,(by rw [bH,bp];exact nQ h ((Below.refl _ _).alloc (Nz _) _) (fun g hg=>by simp [aF] at hg;omega)),aW _ _ _⟩
 .rename_i t;split at hp
  .rename_i z hz;obtain ⟨h1,h2⟩:=hp;obtain ⟨h3,h4⟩:=nK (P:=P) (t:=t) (av:=.c z) h (.tree (.c z)) trivial h1 dst;exact aI (by simp [execOp,Sem.run_bind,nV hz,h3]) ⟨_,_,h2,h4,(by rw [bH,bp];exact nQ h ((Below.refl _ _).alloc (Nz _) _) (fun g hg=>by simp [aF] at hg;omega)),aW _ _ _⟩
  .exact hp.elim
 .rename_i t p x;unfold oC at hp;split at hp
  .rename_i id i j hpe;split at hp
   .rename_i ty cells hid;obtain ⟨rfl,h0,h1,h2,h3,h4⟩:=hp;have hpv:=(ak h p).1;rw [hpe] at hpv;have hx:=ak h x;obtain ⟨w',h5,h6,h7,h8⟩:=jo h hpv hid hx.1 hx.2 h0 h1 h2 h3 dst;exact dC (by simp [execOp,Sem.run_bind,h5]) ⟨_,_,h4,h6,(by rw [bH,bp];exact qm hid (by simp only [aE.sz,NB,NF,Ov];omega) h7 h8),aW _ _ _⟩
   .rename_i e sz rows hid;obtain ⟨hi,h0,h1,h2,h3,h3',h4⟩:=hp;have hpv:=(ak h p).1;rw [hpe] at hpv;have hx:=ak h x;obtain ⟨w',h5,h6,h7,h8⟩:=jC h hpv hid hx.1 hx.2 hi h0 h1 h2 h3 h3' dst;exact dC (by simp [execOp,Sem.run_bind,h5]) ⟨_,_,h4,h6,(by rw [bH,bp];exact qm hid rfl h7 h8),aW _ _ _⟩
   .rename_i e sz rows hid;obtain ⟨hi,h0,h1,h2,h3,h4⟩:=hp;have hpv:=(ak h p).1;rw [hpe] at hpv;have hx:=ak h x;obtain ⟨w',h5,h6,h7,h8⟩:=iI h hpv hid hx.1 hx.2 hi h0 h1 h2 h3 dst;exact dC (by simp [execOp,Sem.run_bind,h5]) ⟨_,_,h4,h6,(by rw [bH,bp];exact qm hid rfl h7 h8),aW _ _ _⟩
   .exact hp.elim
  .exact hp.elim
 .rename_i t n parts;unfold dp at hp;have hfr:=pF (cx:=cx) (w:=w) (L:=L) (st:=st) (fN (parts.toList.flatMap fun (p:Nat × Operand)=>am (a5 st p.2)))
  replace h:=ff (fN (parts.toList.flatMap fun (p:Nat × Operand)=>am (a5 st p.2))) h
  unfold fu at hp;split at hp
  .rename_i e sz by_ ht;split at hp
   .obtain ⟨⟨h1,rfl,h3,h5⟩,h6⟩:=hp;obtain ⟨v',w',L',h7,h8,hb,rfl,hv⟩:=iD h ht h1 h3 h5 dst;refine aI ?_ ⟨_,_,h6,h8,(by rw [bH,bp];exact hfr.trans (nQ h hb fun g hg=>by rw [hv] at hg;cases hg;exact Nz _)),aW _ _ _⟩;simp only [Pm] at h7;simp [execOp,Sem.run_bind];simp at h7;simp [h7]
   .obtain ⟨⟨h1,rfl,h3,h5⟩,h6⟩:=hp;obtain ⟨v',w',L',h7,h8,hb,rfl,hv⟩:=oj h ht h1 h3 h5 dst;refine aI ?_ ⟨_,_,h6,h8,(by rw [bH,bp];exact hfr.trans (nQ h hb fun g hg=>by rw [hv] at hg;cases hg;exact Nz _)),aW _ _ _⟩;simp only [Pm] at h7;simp [execOp,Sem.run_bind];simp at h7;simp [h7]
  .exact hp.elim
 .rename_i t l c;unfold o6 at hp;split at hp
  .rename_i e sz by_ k1 n k2 m ht hl hc;split at hp
   .rename_i z hz;obtain ⟨⟨rfl,h1,h2,h3,h4⟩,h5⟩:=hp;have hl':=(ak h l).1;have hc':=(ak h c).1;rw [hl] at hl';rw [hc] at hc';obtain ⟨v',w',L',h6,h7,hb,rfl,hv⟩:=tX (k1:=k1) (k2:=k2) h ht hz h1 h2 h3 h4 dst;exact aI (by simp [execOp,Sem.run_bind,hl'.c_inv,hc'.c_inv,h6]) ⟨_,_,h5,h7,(by rw [bH,bp];exact nQ h hb fun g hg=>by rw [hv] at hg;cases hg;exact Nz _),aW _ _ _⟩
   .exact hp.elim
  .exact hp.elim
 .rename_i t parts;obtain ⟨v,cs,h1,h2,h3,h4⟩:=kF h hp;refine aI ?_ ⟨_,_,h4,ba h h1 h2 dst,(by rw [bH,bp];exact Fr.refl),aW _ _ _⟩;simp [execOp,Sem.run_bind,h3 w]
 .rename_i t x lo hi mx;exact xJ h hp
 .rename_i t r;obtain ⟨hr,hp⟩:=hp
  cases r with
  | some r=>cases hr
  | none=>
   obtain ⟨h1,h2⟩:=pS (P:=P) (t:=t) h dst;exact aI (by simp [execOp,Sem.run_bind,h1]) ⟨_,_,hp,h2,(by rw [bH,bp];exact nQ h ((Below.refl _ _).alloc (Nz _) _) (fun g hg=>by simp [aF] at hg;omega)),aW _ _ _⟩
 .rename_i t m k ok;obtain ⟨r,av,h1,h2,h3,h4⟩:=ot (nx:=st.next) h.lay (ak h m).1 (ak h k).1 hp;exact aI (by simp [execOp,Sem.run_bind,h4]) ⟨_,_,h1,ba h h2 h3 dst,(by rw [bH,bp];exact Fr.refl),aW _ _ _⟩
 .rename_i t m k v;obtain ⟨w',st',h1,h2,h3,h4,id,ents,ents',_,h5,rfl,h6⟩:=oB h (ak h m).1 (ak h k).1 (ak h v).1 dst hp;exact dC (by simp [execOp,Sem.run_bind,h1]) ⟨_,_,h2,h3,(by rw [bH,bp];exact qm h5 rfl h4 h6),aW _ _ _⟩
 .rename_i c;obtain ⟨callee,args,argTypes⟩:=c;simp only at hp;split at hp
  .split at hp
   .rename_i x y t t' h1 h2;obtain rfl:args = #[x,y]:=by cases args;simp_all
    obtain rfl:argTypes = #[t,t']:=by cases argTypes;simp_all
    obtain ⟨rfl,hp⟩:=hp;unfold iq at hp;split at hp
    .rename_i hnn;obtain ⟨e1,e2⟩:=lC hnn;have hx1:=(ak h x).1;have hy1:=(ak h y).1;rw [e1] at hx1;rw [e2] at hy1;have hx2:=hx1.c_inv;have hy2:=hy1.c_inv;have hr:=gW (ty:=ty) (w:=w) hp.1;exact aI (by simp [execOp,Sem.run_bind,resolve,invoke,builtin,hx2,hy2,hr]) ⟨_,_,hp.2,ba h (.tree (.c _)) trivial dst,(by rw [bH,bp];exact Fr.refl),aW _ _ _⟩
    unfold jg at hp;split at hp
    .rename_i e sz by_ ht;split at hp
     .rename_i oid rows rows2 hx hy;obtain ⟨⟨h3,h4⟩,h5⟩:=hp;obtain ⟨v',w',L',h6,h7,hg,rfl,hv,hown⟩:=oz (ty:=ty) h (ak h x).1 (ak h y).1 ht hx hy (by simpa [maxLen] using h3) h4 dst
      have hoid:∀ id,oid=some id -> ∃ o,st.tab.get id=some o:=fun id hid=>by
       subst hid;unfold uI at hx;split at hx
       .rename_i id' hid';split at hx
        .rename_i e' sz' rows' hget;split at hx
         .cases hx;exact ⟨_,hget⟩
         .cases hx
        .cases hx
       .cases hx
       .cases hx
      exact aI (by simp [execOp,Sem.run_bind,resolve,invoke,builtin,h6]) ⟨_,_,h5,h7,(by rw [bH,bp];exact FK h hg hv hown hoid),aW _ _ _⟩
     .split at hp
      .rename_i oid rows rows2 hx hy;obtain ⟨⟨h3,h4⟩,h5⟩:=hp;obtain ⟨v',w',L',h6,h7,hg,rfl,hv,hown⟩:=lN (ty:=ty) h (ak h x).1 (ak h y).1 ht hx hy (by simpa [maxLen] using h3) h4 dst
       have hoid:∀ id,oid=some id -> ∃ o,st.tab.get id=some o:=fun id hid=>by
        subst hid;unfold kh at hx;split at hx
        .rename_i id' hid';split at hx
         .rename_i e' sz' rows' hget;split at hx
          .cases hx;exact ⟨_,hget⟩
          .cases hx
         .cases hx
        .cases hx
        .cases hx
       exact aI (by simp [execOp,Sem.run_bind,resolve,invoke,builtin,h6]) ⟨_,_,h5,h7,(by rw [bH,bp];exact FK h hg hv hown hoid),aW _ _ _⟩
      .exact hp.elim
    .exact hp.elim
   .exact hp.elim
  .unfold tS at hp;split at hp
   .rename_i x t h1 h2;obtain rfl:args = #[x]:=by cases args;simp_all
    obtain rfl:argTypes = #[t]:=by cases argTypes;simp_all
    obtain ⟨w',st',h3,h4,h5,h6,id,ents,h7,rfl,h8⟩:=xh (ty:=ty) h (ak h x).1 dst hp;exact aI (by simp [execOp,Sem.run_bind,resolve,invoke,builtin,h3]) ⟨_,_,h4,h5,(by rw [bH,bp];exact qm h7 rfl h6 h8),aW _ _ _⟩
   .exact hp.elim
  .rcases hp with hp | hp
   .unfold y2 at hp;split at hp
    .rename_i x t h1 h2;obtain rfl:args = #[x]:=by cases args;simp_all
     obtain rfl:argTypes = #[t]:=by cases argTypes;simp_all
     obtain ⟨r,av,h3,h4,h5,h6⟩:=zr (ty:=ty) (nx:=st.next) h.lay (ak h x).1 hp;exact aI (by simp [execOp,Sem.run_bind,resolve,invoke,builtin,h6]) ⟨_,_,h3,ba h h4 h5 dst,(by rw [bH,bp];exact Fr.refl),aW _ _ _⟩
    .exact hp.elim
   .exact nC h hp
  .rename_i f;obtain ⟨g,zs,avs,hrun0,hsz,hlt,hp⟩:=xg h hp;by_cases hmeth:wO none P st g avs (sa dst K)
   .obtain ⟨hent,ids0,_,hc⟩:=tU h hsz (fun j v av h1 h2=>(hlt j v av h1 h2).1) hmeth dst;unfold Oper.wp;rw [hrun0 hent _ argTypes rfl];show Calls P g zs w _;refine hc.mono ?_;rintro e w' ⟨v,av,st',L',rfl,h1,h2,h3,_⟩;exact ⟨_,_,h1,h2,(by rw [bH,bp];exact h3),aW _ _ _⟩
   replace hp:ox P st g avs (sa dst K) \/ (none=(none:Option (Nat × List Nat)) /\ (Ap P st g avs (sa dst K) \/ zj P st g avs (sa dst K))):=by
    rcases hp with hp|hp|hp
    .exact .inl hp
    .exact .inr hp
    .exact absurd hp hmeth
   have hent:fY P g:=by
    rcases hp with (⟨R,hd,_⟩|⟨hd,_⟩)|⟨_,(⟨_,_,_,_,_,_,_,_,hd,_⟩|⟨_,_,_,_,_,_,_,_,_,hd,_⟩|⟨hd,_⟩)|⟨_,(⟨R,hd,_⟩|⟨hd,_⟩)⟩⟩
    .exact hd.1
    .exact hd
    .exact hd.1
    .exact hd.1
    .exact hd
    .exact hd.1
    .exact hd
   unfold Oper.wp;rw [hrun0 hent _ argTypes rfl];show Calls P g zs w _;have hargs:zs.size=avs.length /\ ∀ (j:Nat) (v:Value) (av:AV),zs[j]? = some v -> avs[j]? = some av -> bx cx w st.tab L v av:=⟨hsz,fun j v av h1 h2=>(hlt j v av h1 h2).1⟩;rcases hp with hp|⟨_,hp|⟨ids,hp⟩⟩
   .refine (mj h hargs.1 hargs.2 hp dst).mono ?_;rintro e w' ⟨v,av,st',L',rfl,h1,h2,hb,hold,hnew,hnx⟩;exact ⟨_,_,h1,h2,(by rw [bH,bp];exact nB (fun id o hid=>(h.young id o hid).1) hb hold hnew hnx),aW _ _ _⟩
   rotate_left
   .obtain ⟨h3,h4⟩:=kZ ids h hlt;have hz:=ff ids h;refine (mj hz (by rw [h3];exact hargs.1) (fun j v av h5 h6=>(h4 j v av h5 h6).1) hp dst).mono ?_;rintro e w' ⟨v,av,st',L',rfl,h1,h2,hb,hold,hnew,hnx⟩;exact ⟨_,_,h1,h2,(by rw [bH,bp];exact (pF ids).trans (nB (fun id o hid=>(hz.young id o hid).1) hb hold hnew hnx)),aW _ _ _⟩
   .refine (Ah h hargs.1 hlt hp dst).mono ?_;rintro e w' ⟨v,av,st',L',rfl,h1,h2,h3⟩;exact ⟨_,_,h1,h2,(by rw [bH,bp];exact h3),aW _ _ _⟩
  .exact nC h hp
 .exact nC h hp
end
end
section
section
variable {P:Program} {cx:Cx} {a:Act} {w w':World} {st:aj} {L L':Nat -> Value} {l0 n:Nat}
end
end
section
abbrev IG:=List (List AV) × Bool
section
variable {P:Program} {l:Nat} {xs:List (List AV)} {Q:Exit -> IG -> aj -> Prop} {g:IG} {st:aj} {K:IG -> aj -> Prop} {ops:Array Oper} {dst:Option Tmp} {op:Op} {ty:TypeId} {pos:String} {aft:Array Edge} {gd:Option (Nat × Bool)} {rest:List Oper}
end
section
variable {P:Program} {l:Nat} {xs:List (List AV)} {T0:Nat -> Prop} {W0:World} {J Jx:List (List AV) -> (Nat -> Prop) -> (Nat -> Prop) -> World -> Prop} {g:IG} {st st':aj} {a a':Act} {W W':World} {L L':Nat -> Value} {T M M':Nat -> Prop}
end
end
section
mutual
def AV.rpz (id:Nat) (cells:List AV):AV -> AV
 | .op id' i j=>if id'=id then (if i=0 then .rp (cells.drop j) else .any) else .op id' i j
 | .osl id'=>if id'=id then .any else .osl id'
 | .agg cs=>.agg (AV.rpzL id cells cs)
 | .tup cs=>.tup (AV.rpzL id cells cs)
 | .fn f cs=>.fn f (AV.rpzL id cells cs)
 | .bfn f cs=>.bfn f (AV.rpzL id cells cs)
 | .any=>.any
 | .c v=>.c v
 | .sl sz rows=>.sl sz rows
 | .rp cs=>.rp cs
def AV.rpzL (id:Nat) (cells:List AV):List AV -> List AV
 | []=>[]
 | a :: l=>a.rpz id cells :: AV.rpzL id cells l
end
theorem fv (id:Nat) (cells:List AV):∀ l:List AV,AV.rpzL id cells l=l.map (·.rpz id cells)
 | []=>rfl
 | a :: l=>by rw [AV.rpzL,fv id cells l];rfl
def kc (id:Nat) (cells:List AV):List (Nat × AV) -> List (Nat × AV)
 | []=>[]
 | (t,av) :: l=>(t,av.rpz id cells) :: kc id cells l
theorem pZ (id:Nat) (cells:List AV):∀ (l:List (Nat × AV)) (t:Nat),aX (kc id cells l) t=(aX l t).rpz id cells
 | [],t=>rfl
 | (k,av) :: l,t=>by
  unfold kc aX;split
  .rfl
  .exact pZ id cells l t
def uu:aE -> Prop
 | .box _ cells=>bV cells
 | .row _ _ _=>True
 | .map _=>True
 | .nest _ _ _=>False
 | .ghost _ _=>False
def kK (id:Nat):af -> Prop
 | []=>True
 | (k,some o) :: l=>(k=id \/ uu o) /\ kK id l
 | (_,none) :: l=>kK id l
theorem j7 {id:Nat}:∀ {l:af} {k:Nat} {o:aE},kK id l -> l.get k=some o -> k=id \/ uu o
 | [],k,o,_,h=>by cases h
 | (k',some oo) :: l,k,o,ht,h=>by
  rw [af.gc] at h;split at h
  .rename_i e;cases h;rw [e];exact ht.1
  .exact j7 ht.2 h
 | (k',none) :: l,k,o,ht,h=>by
  rw [af.gc] at h;split at h
  .cases h
  .exact j7 (l:=l) ht h
theorem Jr {w:World} {S:Nat -> Prop} {x:Value} {av:AV} (h:RT w S x av) (id:Nat) (cells:List AV):av.rpz id cells=av:=by
 induction h with
 | agg xs cs hn hr ih=>
  simp only [AV.rpz,fv,AV.agg.injEq];apply Oh;intro j;rw [Nu]
  cases hj:cs[j]? with
  | none=>rfl
  | some av=>
   have hlt:j<xs.size:=by rw [hn];exact (Nw.1 hj).1
   simp [ih j _ av (Nx hlt) hj]
 | tup xs cs hn hr ih=>
  simp only [AV.rpz,fv,AV.tup.injEq];apply Oh;intro j;rw [Nu]
  cases hj:cs[j]? with
  | none=>rfl
  | some av=>
   have hlt:j<xs.size:=by rw [hn];exact (Nw.1 hj).1
   simp [ih j _ av (Nx hlt) hj]
 | fn f xs cs hn hr ih=>
  simp only [AV.rpz,fv,AV.fn.injEq];refine ⟨trivial,?_⟩;apply Oh;intro j;rw [Nu]
  cases hj:cs[j]? with
  | none=>rfl
  | some av=>
   have hlt:j<xs.size:=by rw [hn];exact (Nw.1 hj).1
   simp [ih j _ av (Nx hlt) hj]
 | bfn f xs cs hn hr ih=>
  simp only [AV.rpz,fv,AV.bfn.injEq];refine ⟨trivial,?_⟩;apply Oh;intro j;rw [Nu]
  cases hj:cs[j]? with
  | none=>rfl
  | some av=>
   have hlt:j<xs.size:=by rw [hn];exact (Nw.1 hj).1
   simp [ih j _ av (Nx hlt) hj]
 | _=>rfl
theorem JW {id nx:Nat} {cells:List AV}:∀ {av:AV},av.lt nx -> (av.rpz id cells).lt nx:=by
 intro av
 induction av using AV.rec (motive_2:=fun _=>True) (motive_3:=fun l=>AV.ltL nx l -> AV.ltL nx (AV.rpzL id cells l))<;>simp_all [AV.lt,AV.ltL,AV.rpz,AV.rpzL]
 .split<;>simp_all [AV.lt]
 .split
  .split<;>simp [AV.lt]
  .simp_all [AV.lt]
theorem F3 {n nx:Nat} {env:List (Nat × AV)} {tab:af} (id:Nat) {ty:TypeId} {cells:List AV} (hid:tab.get id=some (.box ty cells)) (ht:iH cells) (hot:kK id tab):eX ⟨n,env,tab,nx⟩ ⟨n,kc id cells env,(id,none) :: tab,nx⟩:=by
 intro cx a w L h
 have hget:∀ k o,af.get ((id,none) :: tab) k=some o -> k ≠ id /\ tab.get k=some o:=fun k o hk=>by
  rw [af.gc] at hk;split at hk
  .cases hk
  .exact ⟨by assumption,hk⟩
 have hS:∀ b,Sx cx w tab L b -> Sx cx w ((id,none) :: tab) L b:=fun b hb=>⟨hb.1,hb.2.1,fun k o hk=>hb.2.2 k o (hget k o hk).2⟩
 have hK:∀ k p,Kx ((id,none) :: tab) L k=some p -> k ≠ id /\ Kx tab L k=some p:=fun k p hk=>by
  unfold Kx at *
  cases ho:af.get ((id,none) :: tab) k with
  | none=>simp [ho] at hk
  | some o=>
   obtain ⟨h1,h2⟩:=hget k o ho;refine ⟨h1,?_⟩;rw [h2];simpa [ho] using hk
 obtain ⟨g,cs,hL,hbg,hheap,hcs,hx⟩:=h.lay.objs id _ hid;have hg:aF (L id)=some g:=by rw [hL];rfl
 have hSg:Sx cx w ((id,none) :: tab) L g:=⟨(N8.1 hheap).1,⟨.inr hbg,fun hX=>(h.lay.ex g hX).2 id _ hid hg⟩,fun k o hk hkg=>by
  obtain ⟨h1,h2⟩:=hget k o hk;exact h1 (h.lay.sep k id o _ g h2 hid hkg hg)⟩
 have conv:∀ x av,bx cx w tab L x av -> bx cx w ((id,none) :: tab) L x (av.rpz id cells):=fun x av hr=>by
  induction hr with
  | tree h0=>
   rw [Jr h0];exact .tree (h0.mono (fun _ _=>rfl) hS)
  | osl x id' h0=>
   unfold AV.rpz;split
   .exact .tree (.any _)
   .exact .osl x id' fun sz v e=>h0 sz v (hK id' _ e).2
  | op x id' i j h0=>
   unfold AV.rpz;split
   .rename_i e;subst e;split
    .rename_i e;subst e;obtain ⟨g',hg',rfl⟩:=h0 _ _ (cD hid);rw [hg] at hg';cases hg';rw [PF,Pv];refine .tree (.rp g j _ (fun k=>cs[j+k]?.getD undef) hSg (fun k av hk=>?_) (fun k av hk=>?_))
     .rw [Og] at hk;have hlt:j+k<cs.size:=by rw [hcs];exact (Nw.1 hk).1
      rw [cell_of_row w g (j+k) cs ty (0,0) hheap,Nx hlt];rfl
     .rw [Og] at hk;have hlt:j+k<cs.size:=by rw [hcs];exact (Nw.1 hk).1
      rw [Nx hlt,NX];exact (p9 (hx (j+k) _ av (Nx hlt) hk).1 (jy ht (Nr hk))).mono (fun _ _=>rfl) hS
    .exact .tree (.any _)
   .exact .op x id' i j fun sz v e=>h0 sz v (hK id' _ e).2
  | agg xs cs' hn hr ih=>
   simp only [AV.rpz,fv];refine .agg xs _ (by simpa using hn) fun j x av h1 h2=>?_;rw [Nu] at h2
   cases hj:cs'[j]? with
   | none=>simp [hj] at h2
   | some av'=>
    simp [hj] at h2;subst h2;exact ih j x av' h1 hj
  | tup xs cs' hn hr ih=>
   simp only [AV.rpz,fv];refine .tup xs _ (by simpa using hn) fun j x av h1 h2=>?_;rw [Nu] at h2
   cases hj:cs'[j]? with
   | none=>simp [hj] at h2
   | some av'=>
    simp [hj] at h2;subst h2;exact ih j x av' h1 hj
  | fn f xs cs' hn hr ih=>
   simp only [AV.rpz,fv];refine .fn f xs _ (by simpa using hn) fun j x av h1 h2=>?_;rw [Nu] at h2
   cases hj:cs'[j]? with
   | none=>simp [hj] at h2
   | some av'=>
    simp [hj] at h2;subst h2;exact ih j x av' h1 hj
  | bfn f xs cs' hn hr ih=>
   simp only [AV.rpz,fv];refine .bfn f xs _ (by simpa using hn) fun j x av h1 h2=>?_;rw [Nu] at h2
   cases hj:cs'[j]? with
   | none=>simp [hj] at h2
   | some av'=>
    simp [hj] at h2;subst h2;exact ih j x av' h1 hj
 refine ⟨L,⟨⟨h.lay.below,fun k o hk=>?_,fun k k' o o' g' h1 h2=>h.lay.sep k k' o o' g' (hget k o h1).2 (hget k' o' h2).2,fun b hb=>⟨(h.lay.ex b hb).1,fun k o hk=>(h.lay.ex b hb).2 k o (hget k o hk).2⟩⟩,h.size,h.defers.mono (fun _ _=>rfl) hS,fun k o hk=>h.young k o (hget k o hk).2,fun t=>?_⟩,hS⟩
 .obtain ⟨h1,h2⟩:=hget k o hk;have ho:=h.lay.objs k o h2;have htr:=(j7 hot h2).resolve_left h1
  cases o with
  | box t cells'=>
   obtain ⟨g',cs',h3,h4,h5,h6,h7⟩:=ho;exact ⟨g',cs',h3,h4,h5,h6,fun j x av h8 h9=>⟨.tree ((eV (h7 j x av h8 h9).1 (fo.1 htr av (Nr h9))).mono (fun _ _=>rfl) hS),(h7 j x av h8 h9).2⟩⟩
  | row e sz rows=>
   obtain ⟨h3,xs,h4,h5,h6⟩:=ho;refine ⟨h3,xs,h4,h5,fun i j row av h7 h8=>?_⟩;obtain ⟨x,hx,hr⟩:=h6 i j row av h7 h8;exact ⟨x,hx,hr.mono (fun _ _=>rfl) hS⟩
  | map ents=>exact ho
  | nest=>exact htr.elim
  | ghost vs env=>exact htr.elim
 .have e1:(⟨n,kc id cells env,(id,none) :: tab,nx⟩:aj).get t=((⟨n,env,tab,nx⟩:aj).get t).rpz id cells:=by
   unfold aj.get;simp only;split
   .exact pZ ..
   .simp [AV.rpz]
  rw [e1];exact ⟨conv _ _ (h.env t).1,JW (h.env t).2⟩
theorem sJ:∀ {l:List AV},bV l -> iH l
 | [],_=>trivial
 | a :: l,h=>⟨by
   have:=h.1;cases a<;>first|exact this|exact this.elim,sJ h.2⟩
theorem Ix {n nx:Nat} {env:List (Nat × AV)} {tab:af} (id:Nat) {ty:TypeId} {cells:List AV} (hid:tab.get id=some (.box ty cells)) (ht:bV cells) (hot:kK id tab):eX ⟨n,env,tab,nx⟩ ⟨n,kc id cells env,(id,none) :: tab,nx⟩:=F3 id hid (sJ ht) hot
theorem dN {st:aj} (id j e sz:Nat) {t:TypeId} {cells:List AV} (hid:st.tab.get id=some (.box t cells)) (hj:cells[j]? = some (.c (.slice none 0 0))) :
  eX st ⟨st.n,st.env,(id,some (.box t (cells.set j (.osl st.next)))) :: (st.next,some (.row e sz [])) :: st.tab,st.next+1⟩:=by
 intro cx a w L h;have hc1:=iW (ob:=.row e sz []) (v:=.slice none 0 0) (x:=.slice none 0 0) (av:=.any) h (Below.refl _ _) (fun g hg=>by simp [aF] at hg) (fun hext=>⟨by simp,[],iV ..,by simp,by simp⟩) trivial (fun hext=>.tree (.any _)) trivial none;have hlt:=(h.young id _ hid).1;have hget1:af.get ((st.next,some (.row e sz [])) :: st.tab) id=some (.box t cells):=by rw [af.gc,Ny (by omega)];exact hid
 generalize hL1:a6 L st.next (.slice none 0 0)=L1 at hc1;generalize ht1:(st.next,some (aE.row e sz [])) :: st.tab=tab1 at hc1 hget1 ⊢;have hc1:aG cx a w ⟨st.n,st.env,tab1,st.next+1⟩ L1:=hc1;have hnew:af.get tab1 st.next=some (.row e sz []):=by rw [<- ht1,af.gc,ND rfl]
 have hLn:L1 st.next=.slice none 0 0:=by rw [<- hL1];simp [a6]
 have hget:∀ k o,af.get ((id,some (.box t (cells.set j (.osl st.next)))) :: tab1) k=some o -> ∃ o',af.get tab1 k=some o' /\ o.sz=o'.sz:=fun k o hk=>by
  rw [af.gc] at hk;split at hk
  .rename_i e1;cases hk;exact ⟨_,by rw [e1];exact hget1,by simp [aE.sz]⟩
  .exact ⟨o,hk,rfl⟩
 have hS1:∀ b,Sx cx w tab1 L1 b -> Sx cx w ((id,some (.box t (cells.set j (.osl st.next)))) :: tab1) L1 b:=fun b hb=>⟨hb.1,hb.2.1,fun k o hk=>by
  obtain ⟨o',h1,_⟩:=hget k o hk;exact hb.2.2 k o' h1⟩
 have hK:∀ k p,Kx ((id,some (.box t (cells.set j (.osl st.next)))) :: tab1) L1 k=some p -> Kx tab1 L1 k=some p:=fun k p hk=>by
  unfold Kx at *
  cases ho:af.get ((id,some (.box t (cells.set j (.osl st.next)))) :: tab1) k with
  | none=>simp [ho] at hk
  | some o=>
   obtain ⟨o',h1,h2⟩:=hget k o ho;rw [h1];simpa [ho,h2] using hk
 have hrv:∀ {x av},bx cx w tab1 L1 x av -> av.lt (st.next+1) -> bx cx w ((id,some (.box t (cells.set j (.osl st.next)))) :: tab1) L1 x av:=fun hr hl=>hr.mono hl (fun _ _=>rfl) hS1 fun k p _ hk=>hK k p hk
 refine ⟨L1,⟨⟨hc1.lay.below,fun k o hk=>?_,fun k k' o o' g h1 h2=>?_,fun b hb=>⟨(hc1.lay.ex b hb).1,fun k o hk=>by
  obtain ⟨o',h1,_⟩:=hget k o hk;exact (hc1.lay.ex b hb).2 k o' h1⟩⟩,hc1.size,hc1.defers.mono (fun _ _=>rfl) hS1,fun k o hk=>?_,fun t=>⟨hrv (hc1.env t).1 (hc1.env t).2,(hc1.env t).2⟩⟩,fun b hb=>hS1 b ?_⟩
 .rw [af.gc] at hk;split at hk
  .rename_i e1;cases hk;subst e1;obtain ⟨g,cs,h1,h2,h3,h4,h5⟩:=hc1.lay.objs _ _ hget1;refine ⟨g,cs,h1,h2,h3,by simpa using h4,fun i x av h6 h7=>?_⟩;rw [O4] at h7;split at h7
   .rename_i e2;subst e2;split at h7
    .cases h7;have h8:=h5 j x _ h6 hj;refine ⟨.osl x _ fun sz' v hk=>?_,h8.2⟩;have hk:=hK _ _ hk;unfold Kx at hk;rw [hnew] at hk;simp at hk;rw [h8.1.c_inv,<- hk.2,hLn]
    .cases h7
   .have h8:=h5 i x av h6 h7;exact ⟨hrv h8.1 (ag.1 (hc1.young _ _ hget1).2 _ (Nr h7)),h8.2⟩
  .have ho:=hc1.lay.objs k o hk;have hy:=(hc1.young k o hk).2
   cases o with
   | box t' cells'=>
    obtain ⟨g,cs,h1,h2,h3,h4,h5⟩:=ho;exact ⟨g,cs,h1,h2,h3,h4,fun i x av h6 h7=>⟨hrv (h5 i x av h6 h7).1 (ag.1 hy _ (Nr h7)),(h5 i x av h6 h7).2⟩⟩
   | row e' sz' rows'=>
    obtain ⟨h1,xs,h2,h3,h4⟩:=ho;refine ⟨h1,xs,h2,h3,fun i j row av h5 h6=>?_⟩;obtain ⟨x,hx,hr⟩:=h4 i j row av h5 h6;exact ⟨x,hx,hr.mono (fun _ _=>rfl) hS1⟩
   | map ents=>exact ho
   | nest e' sz' rows'=>
    obtain ⟨h1,xs,h2,h3,h4⟩:=ho;refine ⟨h1,xs,h2,h3,fun i j row av h5 h6=>?_⟩;obtain ⟨x,hx,hr⟩:=h4 i j row av h5 h6;exact ⟨x,hx,hrv hr (ag.1 (hy row (Nr h5)) _ (Nr h6))⟩
   | ghost vs env=>exact ⟨ho.1,fun t ht=>hrv (ho.2 t ht) (fW hy t)⟩
 .obtain ⟨o1,h3,_⟩:=hget k o h1;obtain ⟨o2,h4,_⟩:=hget k' o' h2;exact hc1.lay.sep k k' o1 o2 g h3 h4
 .rw [af.gc] at hk;split at hk
  .rename_i e1;cases hk;have hy:=hc1.young id _ hget1;refine ⟨by rw [e1];exact hy.1,ag.2 fun x hx=>?_⟩;rcases OP hx with hx|rfl
   .exact ag.1 hy.2 x hx
   .exact Ot _
  .exact hc1.young k o hk
 .refine ⟨hb.1,hb.2.1,fun k o hk hg=>?_⟩;rw [<- ht1,af.gc] at hk;rw [<- hL1] at hg;unfold a6 at hg;split at hk
  .rename_i e1;rw [ND e1] at hg;simp [aF] at hg
  .rename_i e1;rw [Ny e1] at hg;exact hb.2.2 k o hk hg
end
section
theorem ko (st:aj) (id:Nat):eX st (fU st id):=fun cx a w L h=>⟨L,(nI h id).1,fun b hb=>⟨hb.1,hb.2.1,fun k o hk=>by
 unfold fU at hk;split at hk
 .simp only [af.gc,cz] at hk;split at hk
  .cases hk
  .cases hg:st.tab.get k with
   | none=>simp [hg] at hk
   | some o'=>exact hb.2.2 k o' hg
 .exact hb.2.2 k o hk⟩⟩
end
end
end Go.Proofs.YtiaiihjmmfakdaaGreatDoor
