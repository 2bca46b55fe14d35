/-
  Parts of the proof: Clp5, Clp6.
-/
import Derived.Test.YtmmoidfcfjklaaaGreatClq3
import Derived.RangeFuncLeaves
import Derived.RangeFuncRecord
import Derived.Test.YtmmoidfcfjklaaaGreatProg
import Derived.Laws.StructEq
import Derived.WalkKit
import Derived.WalkLawsBesides
import Derived.ProofKit
import Derived.OpenShut
import Derived.Deep.Slices
import Derived.BigQuiet
import Derived.Deep.QuietTactic
import Derived.Test.YtmmoidfcfjklaaaGreatRows
import Derived.SizedLaws
import Derived.WalkSpells
import Derived.ScopeJumps
import Derived.WalkMore
import Derived.Handy
import Derived.Deep.DeepCutAuto
import Derived.Deep.CutBlock
set_option linter.unusedVariables false
set_option linter.unusedSimpArgs false
set_option linter.defProp false
set_option maxRecDepth 100000
set_option maxHeartbeats 16000000
namespace Go.Proofs.YtmmoidfcfjklaaaGreat
open Go.RowKit
section
section
def cM (st:aj) (ren:List Nat):af -> Prop
 | []=>True
 | (k,o) :: T=>(k<ren.length /\ (∃ e sz rows,o=some (.row e sz rows)) /\ st.tab.get (ren.getD k 0)=o) /\ cM st ren T
def d9 (R:cS) (st:aj) (av:AV):Prop:=∃ ren:List Nat,ren.Nodup /\ R.r.ren ren=av /\ cM st ren R.tab
def db (P:Program) (st:aj):List ResultVar -> (List AV -> Prop) -> Prop
 | [],K=>K []
 | .tmp t :: l,K=>db P st l fun avs=>K (st.get t :: avs)
 | .cell p ty :: l,K=>kh P ty st.tab (st.get p) fun av=>db P st l fun avs=>K (av :: avs)
def gC:List AV -> AV
 | [x]=>x
 | l=>.tup l
def yD (P:Program) (rs:List ResultVar) (Post:cS -> Prop):Exit -> aj -> Prop
 | .normal,st=>db P st rs fun avs=>∃ R,Post R /\ R.Ok /\ d9 R st (gC avs)
 | .ret,st=>db P st rs fun avs=>∃ R,Post R /\ R.Ok /\ d9 R st (gC avs)
 | _,_=>False
def Ke (P:Program) (rs:List ResultVar) (R:cS):Exit -> aj -> Prop
 | .normal,st=>db P st rs fun avs=>d9 R st (gC avs)
 | .ret,st=>db P st rs fun avs=>d9 R st (gC avs)
 | _,_=>False
theorem ST {P:Program} {rs:List ResultVar} {R:cS} {st:aj}:Ke P rs R .ret st=db P st rs fun avs=>d9 R st (gC avs):=rfl
theorem Pb {P:Program} {rs:List ResultVar} {Post:cS -> Prop} {st:aj}:yD P rs Post .ret st=db P st rs fun avs=>∃ R,Post R /\ R.Ok /\ d9 R st (gC avs):=rfl
def Pq (P:Program) (rs:List ResultVar) (t:TypeId) (n:Nat) (Post:AV -> List AV -> List aD -> Prop):Exit -> aj -> Prop
 | .normal,st=>db P st rs fun avs=>∃ cells' objs',Post (gC avs) cells' objs' /\ fH (gC avs) /\ (cells'.length=n /\ AV.ltL (objs'.length+1) cells' /\ ∀ o ∈ objs',bV o) /\ dH st ⟨st.n,[(0,.op 0 0 0)],bS 0 (.box t cells' :: objs'),objs'.length+1⟩
 | .ret,st=>db P st rs fun avs=>∃ cells' objs',Post (gC avs) cells' objs' /\ fH (gC avs) /\ (cells'.length=n /\ AV.ltL (objs'.length+1) cells' /\ ∀ o ∈ objs',bV o) /\ dH st ⟨st.n,[(0,.op 0 0 0)],bS 0 (.box t cells' :: objs'),objs'.length+1⟩
 | _,_=>False
theorem MQ {P:Program} {rs:List ResultVar} {t:TypeId} {n:Nat} {Post:AV -> List AV -> List aD -> Prop} {st:aj}:Pq P rs t n Post .ret st=db P st rs fun avs=>∃ cells' objs',Post (gC avs) cells' objs' /\ fH (gC avs) /\ (cells'.length=n /\ AV.ltL (objs'.length+1) cells' /\ ∀ o ∈ objs',bV o) /\ dH st ⟨st.n,[(0,.op 0 0 0)],bS 0 (.box t cells' :: objs'),objs'.length+1⟩:=rfl
def dg:Nat -> List AV -> List (Nat × AV)
 | _,[]=>[]
 | k,a :: l=>(k,a) :: dg (k+1) l
theorem jo:∀ (l:List AV) (k t:Nat),bb (dg k l) t=if k<=t then l.getD (t - k) .any else .any
 | [],k,t=>by simp [dg,bb]
 | a :: l,k,t=>by
  simp only [dg,bb];rw [jo l (k+1) t];by_cases h:t=k
  .subst h;simp
  .rw [Vj h];by_cases h2:k<=t
   .rw [Vo (by omega),Vo h2,show t - k=(t - (k+1))+1 by omega];simp
   .rw [Vj (by omega),Vj h2]
section
variable {P:Program} {cx:Cx} {a:Act} {w w':World} {tab:af} {st:aj} {L:Nat -> Value} {nx:Nat}
theorem Ak {ren:List Nat}:∀ {T:af} {k:Nat} {o:aD},cM st ren T -> T.get k=some o -> k<ren.length /\ (∃ e sz rows,o=.row e sz rows) /\ st.tab.get (ren.getD k 0)=some o
 | [],k,o,_,h=>by cases h
 | (j,oo) :: T,k,o,hp,h=>by
  rw [af.gc] at h;split at h
  .rename_i e;subst e;subst h;obtain ⟨h1,⟨e,sz,rows,h2⟩,h3⟩:=hp.1;cases h2;exact ⟨h1,⟨e,sz,rows,rfl⟩,h3⟩
  .exact Ak hp.2 h
theorem lT {t:TypeId} {v u:Value} (h:(Instr.loadAt t v).run P w=.ok u w):(do loadVar t (<- asAddr v):Sem Value).run P w=.ok u w:=by
 cases v with
 | pointer p=>
  cases p with
  | none=>simp [Instr.loadAt,Instr.sureAddr,Sem.run_bind] at h
  | some ad=>simpa [Instr.loadAt,Instr.sureAddr,asAddr,Sem.run_bind] using h
 | _=>simp [Instr.loadAt,Instr.sureAddr,Sem.run_bind] at h
def nZ (tmps:Array Value):ResultVar -> Sem Value
 | .tmp t=>pure (tmps.getD t undef)
 | .cell p t=>do loadVar t (<- asAddr (tmps.getD p undef))
theorem sr (fn:Func) (tmps:Array Value):results fn tmps=(do
  let vs <- fn.results.mapM (nZ tmps)
  pure (if h:vs.size=1 then vs[0] else .tuple vs)):=by
 unfold results
 congr 1
theorem ya (h:aH cx a w st L):∀ (l:List ResultVar) (K:List AV -> Prop),db P st l K ->
  ∃ vs avs,K avs /\ vs.length=avs.length /\ (∀ (j:Nat) (v:Value) (av:AV),vs[j]? = some v -> avs[j]? = some av -> bQ cx w st.tab L v av) /\
   (l.mapM (nZ a.tmps):Sem (List Value)).run P w=.ok vs w
 | [],K,hp=>⟨[],[],hp,rfl,by simp,by simp⟩
 | .tmp t :: l,K,hp=>by
  obtain ⟨vs,avs,h1,h2,h3,h4⟩:=ya h l _ hp;refine ⟨a.tmps.getD t undef :: vs,st.get t :: avs,h1,by simp [h2],fun j v av h5 h6=>?_,?_⟩
  .cases j with
   | zero=>
    cases h5;cases h6;exact (h.env t).1
   | succ j=>exact h3 j v av (by simpa using h5) (by simpa using h6)
  .simp only [List.mapM_cons,nZ,Sem.run_bind,Sem.run_pure,Result.andThen_ok,h4]
 | .cell p ty :: l,K,hp=>by
  obtain ⟨u,au,h1,h2,h3,h4⟩:=(yf (nx:=st.next) h.lay (fun id o hid=>(h.young id o hid).2) (h.env p).1 hp).one;obtain ⟨vs,avs,h5,h6,h7,h8⟩:=ya h l _ h1;refine ⟨u :: vs,au :: avs,h5,by simp [h6],fun j v av h9 h10=>?_,?_⟩
  .cases j with
   | zero=>
    cases h9;cases h10;exact h2
   | succ j=>exact h7 j v av (by simpa using h9) (by simpa using h10)
  .have:=lT (h4 w (Below.refl _ _));simp only [List.mapM_cons,nZ];rw [Sem.run_bind,this];simp only [Sem.run_bind,Sem.run_pure,Result.andThen_ok,h8]
theorem Jc {fn:Func} {K:AV -> Prop} (h:aH cx a w st L) (hp:db P st fn.results.toList fun avs=>K (gC avs)):∃ v av,K av /\ bQ cx w st.tab L v av /\ (results fn a.tmps).run P w=.ok v w:=by
 obtain ⟨vs,avs,h1,h2,h3,h4⟩:=ya h _ _ hp
 have hm:(results fn a.tmps).run P w=.ok (if h:vs.toArray.size=1 then vs.toArray[0] else .tuple vs.toArray) w:=by
  rw [sr,Sem.run_bind,Array.mapM_eq_mapM_toList];simp only [bind_pure_comp,Sem.run_map,h4];rfl
 refine ⟨_,gC avs,h1,?_,hm⟩;clear hm h4 h1
 match vs,avs,h2,h3 with
 | [v],[av],_,h3=>exact h3 0 v av rfl rfl
 | [],[],_,h3=>exact .tup _ _ rfl (by simp)
 | v :: v' :: vs,av :: av' :: avs,h2,h3=>
  simp only [gC,Xn,VN];rw [dif_neg (by omega)];exact .tup _ _ (by simpa using h2) fun j x av h4 h5=>h3 j x av (by simpa using h4) h5
end
structure iV (base:Nat) (w w':World):Prop where
 below:Below base w w'
 size:w'.heap.size=w.heap.size
 cell:∀ p,w'.cell? p=w.cell? p
 cells:∀ (k:Nat) cs t x,w.heap[k]? = some (Obj.cells cs t x) -> w'.heap[k]? = some (Obj.cells cs t x)
 maps:∀ (k:Nat) es c,w.heap[k]? = some (Obj.map es c) -> w'.heap[k]? = some (Obj.map es c)
theorem iV.refl (base:Nat) (w:World):iV base w w:=⟨Below.refl _ _,rfl,fun _=>rfl,fun _ _ _ _ h=>h,fun _ _ _ h=>h⟩
theorem iV.trans {base:Nat} {w w' w'':World} (h:iV base w w') (k:iV base w' w''):iV base w w'':=
 ⟨h.below.trans k.below,k.size.trans h.size,fun p=>(k.cell p).trans (h.cell p),fun b cs t x hb=>k.cells b cs t x (h.cells b cs t x hb),fun b es c hb=>k.maps b es c (h.maps b es c hb)⟩
theorem iV.put {base k:Nat} {w:World} {o:Option (List Deferred)} (hk:base<=k) (h:w.heap[k]? = some (.deferred o)) (o':Option (List Deferred)):iV base w (w.putObj k (.deferred o')):=by
 have hother:∀ j,j ≠ k -> (w.putObj k (.deferred o')).heap[j]? = w.heap[j]?:=fun j hj=>World.putObj_heap_other hj;have hlt:k<w.heap.size:=(VK.1 h).1;refine ⟨⟨rfl,rfl,rfl,by simp,fun j hj=>hother j (by omega)⟩,by simp,fun p=>?_,fun j cs t x hj=>?_,fun j es c hj=>?_⟩
 .by_cases e:p.block=k
  .have h1:(w.putObj k (.deferred o')).heap[p.block]? = some (.deferred o'):=by rw [e];exact World.putObj_heap_same hlt
   have h2:w.heap[p.block]? = some (.deferred o):=by rw [e];exact h
   unfold World.cell?;rw [h1,h2]
  .exact World.cell?_of_block (hother p.block e)
 .by_cases e:j=k
  .rw [e,h] at hj;cases hj
  .rw [hother j e];exact hj
 .by_cases e:j=k
  .rw [e,h] at hj;cases hj
  .rw [hother j e];exact hj
theorem iV.turn {base k:Nat} {w:World} {o:Loop} (hk:base<=k) (h:w.heap[k]? = some (.loop o)) (o':Loop):iV base w (w.putObj k (.loop o')):=by
 have hother:∀ j,j ≠ k -> (w.putObj k (.loop o')).heap[j]? = w.heap[j]?:=fun j hj=>World.putObj_heap_other hj;have hlt:k<w.heap.size:=(VK.1 h).1;refine ⟨⟨rfl,rfl,rfl,by simp,fun j hj=>hother j (by omega)⟩,by simp,fun p=>?_,fun j cs t x hj=>?_,fun j es c hj=>?_⟩
 .by_cases e:p.block=k
  .have h1:(w.putObj k (.loop o')).heap[p.block]? = some (.loop o'):=by rw [e];exact World.putObj_heap_same hlt
   have h2:w.heap[p.block]? = some (.loop o):=by rw [e];exact h
   unfold World.cell?;rw [h1,h2]
  .exact World.cell?_of_block (hother p.block e)
 .by_cases e:j=k
  .rw [e,h] at hj;cases hj
  .rw [hother j e];exact hj
 .by_cases e:j=k
  .rw [e,h] at hj;cases hj
  .rw [hother j e];exact hj
section
variable {cx:Cx} {a:Act} {w w':World} {st:aj} {L:Nat -> Value}
theorem wa (h:aH cx a w st L) (hk:iV cx.w0.heap.size w w') {ds:List Deferred} (hm:jR cx.w0.heap.size w' (Sx cx w' st.tab L) ds):aH cx { a with defers:=ds } w' st L:=by
 have hS:∀ b,Sx cx w st.tab L b -> Sx cx w' st.tab L b:=fun b hb=>⟨by rw [hk.size];exact hb.1,hb.2.1,hb.2.2⟩;have hrv:∀ {x av nx},bQ cx w st.tab L x av -> av.lt nx -> bQ cx w' st.tab L x av:=fun hr hl=>hr.mono hl (fun p _=>hk.cell p) hS (fun _ _ _ h=>h);refine ⟨⟨h.lay.below.trans (j0 hk.below),fun id o hid=>?_,h.lay.sep,fun b hb=>⟨by rw [hk.size];exact (h.lay.ex b hb).1,(h.lay.ex b hb).2⟩⟩,h.size,hm,h.young,fun t=>⟨hrv (h.env t).1 (h.env t).2,(h.env t).2⟩⟩;have ho:=h.lay.objs id o hid;have hy:=(h.young id o hid).2
 cases o with
 | box t cells=>
  obtain ⟨g,cs,h1,h2,h3,h4,h5⟩:=ho;exact ⟨g,cs,h1,h2,hk.cells _ _ _ _ h3,h4,fun j x av h6 h7=>⟨hrv (h5 j x av h6 h7).1 (ak.1 hy _ (Os h7)),(h5 j x av h6 h7).2⟩⟩
 | row e sz rows=>
  obtain ⟨h1,xs,hown,h2,h3⟩:=ho;refine ⟨h1,xs,⟨hown.1,?_⟩,h2,fun i j row av ha hb=>?_⟩
  .rcases hown.2 with hn | ⟨g,cap,cur,h4,hb,hh,rest⟩
   .exact .inl hn
   .exact .inr ⟨g,cap,cur,h4,hb,hk.cells _ _ _ _ hh,rest⟩
  .obtain ⟨x,hx,hr⟩:=h3 i j row av ha hb;exact ⟨x,hx,hr.mono (fun p _=>hk.cell p) hS⟩
 | map ents=>
  obtain ⟨b,es,ck,h1,h2,h3,h4⟩:=ho;exact ⟨b,es,ck,h1,h2,hk.maps _ _ _ h3,h4⟩
 | nest e sz rows=>
  obtain ⟨h1,xs,hown,h2,h3⟩:=ho;refine ⟨h1,xs,⟨hown.1,?_⟩,h2,fun i j row av ha hb=>?_⟩
  .rcases hown.2 with hn | ⟨g,cap,cur,h4,hb,hh,rest⟩
   .exact .inl hn
   .exact .inr ⟨g,cap,cur,h4,hb,hk.cells _ _ _ _ hh,rest⟩
  .obtain ⟨x,hx,hr⟩:=h3 i j row av ha hb;exact ⟨x,hx,hrv hr (ak.1 (hy row (Os ha)) _ (Os hb))⟩
 | ghost vs env=>exact ⟨ho.1,fun t ht=>hrv (ho.2 t ht) (fY hy t)⟩
end
theorem BJ {cx:Cx} {a:Act} {w w':World} {st:aj} {L:Nat -> Value} (h:aH cx a w st L) (hk:iV cx.w0.heap.size w w'):aH cx { a with defers:=[] } w' st L:=wa h hk (jR.nil _ _ _)
theorem om {P:Program} {fn:Func} {tmps:Array Value} {R:Ending -> World -> Prop} {base:Nat} {S:Nat -> Prop}:∀ (ds:List Deferred) (w:World),jR base w S ds -> (∀ w',iV base w w' -> LeavesIn Fence.wide 0 P fn tmps R [] .returning w') -> LeavesInM Fence.wide 0 P fn tmps R ds .returning w
 | [],w,_,h=>h w (iV.refl _ _)
 | d :: ds,w,hm,h=>by
  obtain ⟨k,rfl,h1,h2,h3⟩:=hm.2 d (Wc ..);have hk:=iV.put h1 h2 none;refine ⟨by simp,.inl ⟨k,_,rfl,run_takeDeferred h2,om (S:=S) ds _ ⟨(List.nodup_cons.1 hm.1).2,fun d' hd'=>?_⟩ fun w' hw'=>h w' (hk.trans hw')⟩⟩;obtain ⟨k',rfl,h4,h5,h6⟩:=hm.2 d' (V0 _ hd');refine ⟨k',rfl,h4,?_,h6⟩;have hne:k' ≠ k:=fun e=>(List.nodup_cons.1 hm.1).1 (by rw [<- e];exact hd');rw [World.putObj_heap_other hne];exact h5
theorem nt {P : Program} {f : FuncId} {fn : Func} {c : Code} (hf : P.funcs[f]? = some fn) (hb : fn.body = some c) (hname : (fn.name == "runtime.NumGoroutine") = false) {args : List AV} {Post : cS → Prop} {n : Nat} (hnt : fn.ntmps = n) {rs : List ResultVar} (hrs : fn.results = rs.toArray) (hn : Nat.ble args.length n = true)
  (h:∀ (cx:Cx) (a:Act) (w:World) (L:Nat -> Value),aH cx a w ⟨n,dg 0 args,[],0⟩ L -> c.wp P (pB cx (yD P rs Post)) a w):dQ P f args Post:=by
 have hn:=WX hn;subst hnt;have hrs:fn.results.toList=rs:=by rw [hrs]
 refine ⟨fun vs w=>?_,fun S w vs hS hvs hv=>?_⟩
 ·have : ¬ fn.name = "runtime.NumGoroutine" := by simpa using hname
  simp [callFunc,Sem.run_bind,hf,this,hb]
 .let cx:Cx:=(Cx.mk0 S w hS)
  refine (callsIn_wide (n:=0)).1 (callsIn_of_wp_marks hf hb trivial (wpIn_wide.2 ?_));have hL:je cx w [] (fun _=>undef):=⟨j0 (Below.refl _ _),fun id o h=>(by cases h),fun id id' o o' g h=>(by cases h),fun b hb=>hb.elim⟩
  have hC:aH cx { tmps:=vs ++ Array.replicate (fn.ntmps - vs.size) undef,defers:=[] } w ⟨fn.ntmps,dg 0 args,[],0⟩ (fun _=>undef):=by
   refine ⟨hL,?_,jR.nil _ _ _,fun id o h=>(by cases h),fun t=>?_⟩
   .simp;omega
   have e:(⟨fn.ntmps,dg 0 args,[],0⟩:aj).get t=args.getD t .any:=by
    show (if t<fn.ntmps then bb (dg 0 args) t else .any)=_;rw [jo];split
    .simp
    .simp [List.getD,Vt (show args.length<=t by omega)]
   rw [e];by_cases ht:t<args.length
   .have ht':t<vs.size:=by omega
    have e2:(vs ++ Array.replicate (fn.ntmps - vs.size) undef).getD t undef=vs[t]:=by
     rw [V9,V5 ht',Vl ht'];rfl
    have e3:args.getD t .any=args[t]:=(by simp [List.getD,ht]);rw [e2,e3];have:=hv t _ _ (Vl ht') (p0 ht);exact ⟨.tree (this.mono (fun _ _=>rfl) fun b hb=>⟨hS b hb,⟨.inl hb,fun h=>h⟩,fun id o h=>by cases h⟩),this.lt 0⟩
   .have e3:args.getD t .any=.any:=(by simp [List.getD,Vt (Nat.le_of_not_lt ht)]);rw [e3];exact ⟨.tree (.any _),trivial⟩
  refine Code.wp_mono (fun e a w' ⟨st,L,h1,h2⟩=>?_) (h cx _ w _ hC);rw [<- hrs] at h1
  have key:(db P st fn.results.toList fun avs=>∃ R,Post R /\ R.Ok /\ d9 R st (gC avs)) -> LeavesInM Fence.wide 0 P fn a.tmps (fun e w'=>∃ v' L R,Post R /\ R.Ok /\ e=.returned v' /\ je cx w' R.tab L /\ bQ cx w' R.tab L v' R.r) a.defers .returning w':=fun h1=>by
   refine om _ _ h2.defers fun w2 hk2=>?_;have h2:=BJ h2 hk2;clear hk2;generalize w2=w' at h2;obtain ⟨v,av,⟨R,hPost,hok,ren,hnd,hr,ht⟩,h4,h5⟩:=Jc (K:=fun av=>∃ R,Post R /\ R.Ok /\ d9 R st av) h2 h1;refine ⟨v,h5,v,fun k=>L (ren.getD k 0),R,hPost,hok,rfl,?_⟩;subst hr;have hget:=fun k o=>Ak (st:=st) (T:=R.tab) (k:=k) (o:=o) ht;have hsub:∀ b,Sx cx w' st.tab L b -> Sx cx w' R.tab (fun k=>L (ren.getD k 0)) b:=fun b hb=>⟨hb.1,hb.2.1,fun k o hk=>hb.2.2 _ o (hget k o hk).2.2⟩;refine ⟨⟨h2.lay.below,fun k o hk=>?_,fun k k' o o' g h6 h7 h8 h9=>?_,fun b hb=>hb.elim⟩,qn hsub (fun k p hk=>?_) _ _ h4⟩
   .obtain ⟨h6,⟨e,sz,rows,rfl⟩,h7⟩:=hget k o hk;obtain ⟨h8,xs,h9,h10,h11⟩:=h2.lay.objs _ _ h7;refine ⟨h8,xs,h9,h10,fun i j row av h12 h13=>?_⟩;obtain ⟨x,hx,hrt⟩:=h11 i j row av h12 h13;exact ⟨x,hx,hrt.mono (fun _ _=>rfl) hsub⟩
   .obtain ⟨ha,_,hb⟩:=hget k o h6;obtain ⟨ha',_,hb'⟩:=hget k' o' h7;have:=h2.lay.sep _ _ o o' g hb hb' h8 h9;simp only [List.getD,p0 ha,p0 ha',VG] at this;have hp:=WH.1 hnd;rcases Xd k k' with hlt|he|hlt
    .exact absurd this (hp k k' ha ha' hlt)
    .exact he
    .exact absurd this.symm (hp k' k ha' ha hlt)
   .unfold Kx at *
    cases ho:R.tab.get k with
    | none=>simp [ho] at hk
    | some o=>
     rw [(hget k o ho).2.2];simpa [ho] using hk
  cases e with
  | normal=>exact key h1
  | ret=>exact key h1
  | _=>exact h1.elim
theorem mM {P:Program} {st:aj}:∀ {l:List ResultVar} {K K':List AV -> Prop},(∀ avs,K avs -> K' avs) -> db P st l K -> db P st l K'
 | [],K,K',h,hp=>h _ hp
 | .tmp t :: l,K,K',h,hp=>mM (l:=l) (fun avs h2=>h _ h2) hp
 | .cell p ty :: l,K,K',h,hp=>by
  have step:∀ av,(db P st l fun avs=>K (av :: avs)) -> db P st l fun avs=>K' (av :: avs):=fun av=>mM (l:=l) (fun avs h2=>h _ h2)
  have take:∀ cs,ov P ty cs (fun av=>db P st l fun avs=>K (av :: avs)) -> ov P ty cs (fun av=>db P st l fun avs=>K' (av :: avs)):=fun cs ⟨h1,h2,h3⟩=>⟨h1,h2,by
   split at h3
   .rw [Vo (by assumption)];exact step _ h3
   .rw [Vj (by assumption)];exact step _ h3⟩
  unfold db kh at hp ⊢;split at hp
  .exact take _ hp
  .split at hp
   .rename_i h0
    first|simp only [h0]|skip
    exact ⟨hp.1,take _ hp.2⟩
   .rename_i h0
    first|simp only [h0]|skip
    exact ⟨hp.1,take _ hp.2⟩
   .rename_i h0
    first|simp only [h0]|skip
    exact ⟨hp.1,take _ hp.2⟩
   .exact hp.elim
  .exact hp.elim
theorem Qo {P:Program} {rs:List ResultVar} {R:cS} (hok:R.Ok) (e:Exit) (st:aj) (h:Ke P rs R e st):yD P rs (fun R'=>R'=R) e st:=by
 cases e with
 | normal=>exact mM (fun avs h=>⟨R,rfl,hok,h⟩) h
 | ret=>exact mM (fun avs h=>⟨R,rfl,hok,h⟩) h
 | _=>exact h.elim
theorem tM {P : Program} {f : FuncId} {fn : Func} {c : Code} (hf : P.funcs[f]? = some fn) (hb : fn.body = some c) (hname : (fn.name == "runtime.NumGoroutine") = false) {args : List AV} {R : cS} {n : Nat} (hnt : fn.ntmps = n) {rs : List ResultVar} (hrs : fn.results = rs.toArray) (hn : Nat.ble args.length n = true)
  (hok:R.Ok) (h:∀ (cx:Cx) (a:Act) (w:World) (L:Nat -> Value),aH cx a w ⟨n,dg 0 args,[],0⟩ L -> c.wp P (pB cx (Ke P rs R)) a w):aw P f args R:=
 nt hf hb hname hnt hrs hn fun cx a w L hc=>Code.wp_mono (fun e a w ⟨st,L,h1,h2⟩=>⟨st,L,Qo hok e st h1,h2⟩) (h cx a w L hc)
theorem bj {P : Program} (hm : P.follows .mixedOrders = true) {f : FuncId} {fn : Func} {c : Code} (hf : P.funcs[f]? = some fn) (hb : fn.body = some c) (hname : (fn.name == "runtime.NumGoroutine") = false) {args : List AV} {Post : cS → Prop} {n : Nat} (hnt : fn.ntmps = n) {rs : List ResultVar} (hrs : fn.results = rs.toArray) (hn : Nat.ble args.length n = true)
  (h:bD P c (yD P rs Post) ⟨n,dg 0 args,[],0⟩):dQ P f args Post:=
 nt hf hb hname hnt hrs hn fun cx a w L hc=>pq hm c _ a w _ L hc h
theorem aa {P : Program} (hm : P.follows .mixedOrders = true) {f : FuncId} {fn : Func} {c : Code} (hf : P.funcs[f]? = some fn) (hb : fn.body = some c) (hname : (fn.name == "runtime.NumGoroutine") = false) {args : List AV} {R : cS} {n : Nat} (hnt : fn.ntmps = n) {rs : List ResultVar} (hrs : fn.results = rs.toArray) (hn : Nat.ble args.length n = true)
  (hok:R.Ok) (h:bD P c (Ke P rs R) ⟨n,dg 0 args,[],0⟩):aw P f args R:=
 tM hf hb hname hnt hrs hn hok fun cx a w L hc=>pq hm c _ a w _ L hc h
end
section
def lY (st:aj):List (Nat × AV) -> Prop
 | []=>True
 | (t,av) :: l=>st.get t=av /\ lY st l
def mo (st:aj):af -> Prop
 | []=>True
 | (id,o) :: l=>st.tab.get id=o /\ mo st l
def cX (nx:Nat):af -> Prop
 | []=>True
 | (id,some o) :: l=>(id<nx /\ o.lt nx) /\ cX nx l
 | (_,none) :: l=>cX nx l
theorem vV {st:aj} {nx:Nat}:∀ {l:List (Nat × AV)} (t:Nat),lY st l -> dC nx l -> (bb l t=st.get t \/ bb l t=.any) /\ (bb l t).lt nx
 | [],t,_,_=>⟨.inr rfl,trivial⟩
 | (k,av) :: l,t,h,hl=>by
  unfold bb;split
  .rename_i e;rw [e];exact ⟨.inl h.1.symm,hl.1⟩
  .exact vV t h.2 hl.2
theorem mG {st:aj} {nx:Nat}:∀ {l:af} {id:Nat} {o:aD},mo st l -> cX nx l -> l.get id=some o -> st.tab.get id=some o /\ id<nx /\ o.lt nx
 | [],id,o,_,_,h=>by cases h
 | (k,oo) :: l,id,o,h,hl,hg=>by
  rw [af.gc] at hg;split at hg
  .rename_i e;subst e;subst hg;exact ⟨h.1,hl.1.1,hl.1.2⟩
  .cases oo with
   | none=>exact mG h.2 hl hg
   | some=>exact mG h.2 hl.2 hg
theorem Me {st:aj} {n nx:Nat} {env:List (Nat × AV)} {tab:af} (hn:st.n=n) (he:lY st env) (ht:mo st tab) (hl:dC nx env) (hl2:cX nx tab):dH st ⟨n,env,tab,nx⟩:=by
 intro cx a w L h;have hsub:∀ id o,tab.get id=some o -> st.tab.get id=some o:=fun id o hid=>(mG ht hl2 hid).1;have hS:∀ b,Sx cx w st.tab L b -> Sx cx w tab L b:=fun b hb=>⟨hb.1,hb.2.1,fun id o hid=>hb.2.2 id o (hsub id o hid)⟩
 have hK:∀ id p,Kx tab L id=some p -> Kx st.tab L id=some p:=fun id p hk=>by
  unfold Kx at *
  cases ho:tab.get id with
  | none=>simp [ho] at hk
  | some o=>rw [hsub id o ho];simpa [ho] using hk
 have hrv:∀ x av,bQ cx w st.tab L x av -> bQ cx w tab L x av:=fun x av hr=>by
  have:∀ nx',av.lt nx' -> bQ cx w tab L x av:=fun nx' hlt=>hr.mono hlt (fun _ _=>rfl) hS (fun id p _ hk=>hK id p hk)
  induction hr with
  | tree h=>exact .tree (h.mono (fun _ _=>rfl) hS)
  | osl x id h=>exact .osl x id fun sz v e=>h sz v (hK id _ e)
  | op x id i j h=>exact .op x id i j fun sz v e=>h sz v (hK id _ e)
  | agg xs cs hn hr ih=>exact .agg xs cs hn fun j x av h1 h2=>ih j x av h1 h2 fun nx' hlt=>(hr j x av h1 h2).mono hlt (fun _ _=>rfl) hS (fun id p _ hk=>hK id p hk)
  | tup xs cs hn hr ih=>exact .tup xs cs hn fun j x av h1 h2=>ih j x av h1 h2 fun nx' hlt=>(hr j x av h1 h2).mono hlt (fun _ _=>rfl) hS (fun id p _ hk=>hK id p hk)
  | fn fi xs cs hn hr ih=>exact .fn fi xs cs hn fun j x av h1 h2=>ih j x av h1 h2 fun nx' hlt=>(hr j x av h1 h2).mono hlt (fun _ _=>rfl) hS (fun id p _ hk=>hK id p hk)
  | bfn fi xs cs hn hr ih=>exact .bfn fi xs cs hn fun j x av h1 h2=>ih j x av h1 h2 fun nx' hlt=>(hr j x av h1 h2).mono hlt (fun _ _=>rfl) hS (fun id p _ hk=>hK id p hk)
 refine ⟨L,⟨⟨h.lay.below,fun id o hid=>?_,fun id id' o o' g h1 h2=>h.lay.sep id id' o o' g (hsub id o h1) (hsub id' o' h2),fun b hb=>⟨(h.lay.ex b hb).1,fun id o hid=>(h.lay.ex b hb).2 id o (hsub id o hid)⟩⟩,h.size.trans hn,h.defers.mono (fun _ _=>rfl) hS,fun id o hid=>(mG ht hl2 hid).2,fun t=>?_⟩,hS⟩
 .have ho:=h.lay.objs id o (hsub id o hid);have hext:mX cx w st.tab L 0 w tab L:=⟨fun _ _=>rfl,hS,fun id p hlt=>by omega⟩
  cases o with
  | box t cells=>
   obtain ⟨g,cs,h1,h2,h3,h4,h5⟩:=ho;exact ⟨g,cs,h1,h2,h3,h4,fun j x av h6 h7=>⟨hrv x av (h5 j x av h6 h7).1,(h5 j x av h6 h7).2⟩⟩
  | row e sz rows=>
   obtain ⟨h1,xs,h2,h3,h4⟩:=ho;refine ⟨h1,xs,h2,h3,fun i j row av h5 h6=>?_⟩;obtain ⟨x,hx,hr⟩:=h4 i j row av h5 h6;exact ⟨x,hx,hext.rt hr⟩
  | map ents=>exact ho
  | nest e sz rows=>
   obtain ⟨h1,xs,h2,h3,h4⟩:=ho;refine ⟨h1,xs,h2,h3,fun i j row av h5 h6=>?_⟩;obtain ⟨x,hx,hr⟩:=h4 i j row av h5 h6;exact ⟨x,hx,hrv x av hr⟩
  | ghost vs env=>exact ⟨ho.1,fun t ht=>hrv _ _ (ho.2 t ht)⟩
 .obtain ⟨h1,h2⟩:=vV t he hl;show bQ cx w tab L _ (if t<n then bb env t else .any) /\ (if t<n then bb env t else .any).lt nx;split
  case isFalse=>exact ⟨.tree (.any _),trivial⟩
  refine ⟨?_,h2⟩;rcases h1 with h1|h1
  .rw [h1];exact hrv _ _ (h.env t).1
  .rw [h1];exact .tree (.any _)
theorem dH.trans {st st' st'':aj} (h:dH st st') (h2:dH st' st''):dH st st'':=fun cx a w L hc=>(h cx a w L hc).elim fun L' hc'=>(h2 cx a w L' hc'.1).elim fun L2 h3=>⟨L2,h3.1,fun b hb=>h3.2 b (hc'.2 b hb)⟩
def wN (l:List Nat):List (Nat × AV) -> List (Nat × AV)
 | []=>[]
 | (t,av) :: r=>(t,av.ren l) :: wN l r
theorem sh (l:List Nat):∀ (r:List (Nat × AV)) (t:Nat),bb (wN l r) t=(bb r t).ren l
 | [],t=>rfl
 | (q,av) :: r,t=>by
  unfold wN bb;split
  .rfl
  .exact sh l r t
def aD.ren (l:List Nat):aD -> aD
 | .box t cells=>.box t (AV.renL l cells)
 | .row e sz rows=>.row e sz rows
 | .nest e sz rows=>.nest e sz (rows.map (AV.renL l))
 | .map ents=>.map ents
 | .ghost vs env=>.ghost vs (wN l env)
theorem aD.ren_sz (l:List Nat) (o:aD):(o.ren l).sz=o.sz:=by cases o<;>simp [aD.ren,aD.sz,bC]
def jZ (st:aj) (ids:List Nat):List (Nat × AV) -> Prop
 | []=>True
 | (t,av) :: l=>st.get t=av.ren ids /\ jZ st ids l
def jA (st:aj) (ids:List Nat):af -> Prop
 | []=>True
 | (id,some o) :: l=>(id<ids.length /\ st.tab.get (ids.getD id 0)=some (o.ren ids)) /\ jA st ids l
 | (_,none) :: l=>jA st ids l
theorem ta {st:aj} {ids:List Nat} {nx:Nat}:∀ {l:List (Nat × AV)} (t:Nat),jZ st ids l -> dC nx l -> ((bb l t).ren ids=st.get t \/ bb l t=.any) /\ (bb l t).lt nx
 | [],t,_,_=>⟨.inr rfl,trivial⟩
 | (k,av) :: l,t,h,hl=>by
  unfold bb;split
  .rename_i e;rw [e];exact ⟨.inl h.1.symm,hl.1⟩
  .exact ta t h.2 hl.2
theorem li {st:aj} {ids:List Nat} {nx:Nat}:∀ {l:af} {id:Nat} {o:aD},jA st ids l -> cX nx l -> l.get id=some o -> (id<ids.length /\ st.tab.get (ids.getD id 0)=some (o.ren ids)) /\ id<nx /\ o.lt nx
 | [],id,o,_,_,h=>by cases h
 | (k,some oo) :: l,id,o,h,hl,hg=>by
  rw [af.gc] at hg;split at hg
  .rename_i e;subst e;cases hg;exact ⟨h.1,hl.1.1,hl.1.2⟩
  .exact li h.2 hl.2 hg
 | (k,none) :: l,id,o,h,hl,hg=>by
  rw [af.gc] at hg;split at hg
  .cases hg
  .exact li (l:=l) h hl hg
theorem JK {st:aj} {n nx:Nat} {env:List (Nat × AV)} {tab:af} (ids:List Nat) (hnd:ids.Nodup) (hn:st.n=n) (he:jZ st ids env) (ht:jA st ids tab) (hl:dC nx env) (hl2:cX nx tab):dH st ⟨n,env,tab,nx⟩:=by
 intro cx a w L h;have hget:∀ k o,tab.get k=some o -> k<ids.length /\ st.tab.get (ids.getD k 0)=some (o.ren ids):=fun k o hk=>(li ht hl2 hk).1;have hS:∀ b,Sx cx w st.tab L b -> Sx cx w tab (fun k=>L (ids.getD k 0)) b:=fun b hb=>⟨hb.1,hb.2.1,fun k o hk=>hb.2.2 _ _ (hget k o hk).2⟩
 have hK:∀ k p,Kx tab (fun k=>L (ids.getD k 0)) k=some p -> Kx st.tab L (ids.getD k 0)=some p:=fun k p hk=>by
  unfold Kx at *
  cases ho:tab.get k with
  | none=>simp [ho] at hk
  | some o=>
   rw [(hget k o ho).2];simpa [ho,aD.ren_sz] using hk
 refine ⟨fun k=>L (ids.getD k 0),⟨⟨h.lay.below,fun k o hk=>?_,fun k k' o o' g h6 h7 h8 h9=>?_,fun b hb=>⟨(h.lay.ex b hb).1,fun k o hk=>(h.lay.ex b hb).2 _ _ (hget k o hk).2⟩⟩,h.size.trans hn,h.defers.mono (fun _ _=>rfl) hS,fun id o hid=>(li ht hl2 hid).2,fun t=>?_⟩,hS⟩
 .obtain ⟨_,h7⟩:=hget k o hk;have ho:=h.lay.objs _ _ h7
  cases o with
  | box t cells=>
   obtain ⟨g,cs,h1,h2,h3,h4,h5⟩:=ho;refine ⟨g,cs,h1,h2,h3,by simpa [bC] using h4,fun j x av h6 h8=>?_⟩;have h9:=h5 j x (av.ren ids) h6 (by rw [bC,Ve,h8];rfl);exact ⟨qn hS hK av x h9.1,h9.2⟩
  | row e sz rows=>
   obtain ⟨h1,xs,h2,h3,h4⟩:=ho;refine ⟨h1,xs,h2,h3,fun i j row av h5 h6=>?_⟩;obtain ⟨x,hx,hr⟩:=h4 i j row av h5 h6;exact ⟨x,hx,hr.mono (fun _ _=>rfl) hS⟩
  | map ents=>exact ho
  | nest e sz rows=>
   obtain ⟨h1,xs,h2,h3,h4⟩:=ho;refine ⟨fun row hr=>by simpa [bC] using h1 (AV.renL ids row) (Vx.2 ⟨row,hr,rfl⟩),xs,by simpa using h2,h3,fun i j row av h5 h6=>?_⟩;obtain ⟨x,hx,hr⟩:=h4 i j (AV.renL ids row) (av.ren ids) (by rw [Ve,h5];rfl) (by rw [bC,Ve,h6];rfl);exact ⟨x,hx,qn hS hK _ _ hr⟩
  | ghost vs env=>
   refine ⟨ho.1,fun t ht=>qn hS hK _ _ ?_⟩;have h9:=ho.2 t ht
   rwa [sh] at h9
 .obtain ⟨ha,hb⟩:=hget k o h6;obtain ⟨ha',hb'⟩:=hget k' o' h7;have:=h.lay.sep _ _ _ _ g hb hb' h8 h9;simp only [List.getD,p0 ha,p0 ha',VG] at this;have hp:=WH.1 hnd;rcases Xd k k' with hlt|he|hlt
  .exact absurd this (hp k k' ha ha' hlt)
  .exact he
  .exact absurd this.symm (hp k' k ha' ha hlt)
 .obtain ⟨h1,h2⟩:=ta t he hl;show bQ cx w tab _ _ (if t<n then bb env t else .any) /\ (if t<n then bb env t else .any).lt nx;split
  case isFalse=>exact ⟨.tree (.any _),trivial⟩
  refine ⟨?_,h2⟩;rcases h1 with h1|h1
  .refine qn hS hK _ _ ?_;rw [h1];exact (h.env t).1
  .rw [h1];exact .tree (.any _)
theorem be {st:aj} (t e sz:Nat) (hg:st.get t=.c (.slice none 0 0)):dH st ⟨st.n,(t,.osl st.next) :: st.env,(st.next,some (.row e sz [])) :: st.tab,st.next+1⟩:=by
 intro cx a w L h;have hv:=(h.env t).1;rw [hg] at hv;have hv:=hv.c_inv
 have hput:a.put (some t) (.slice none 0 0)=a:=by
  unfold Act.put
  have:a.tmps.setIfInBounds t (.slice none 0 0)=a.tmps:=by
   apply Array.ext (by simp);intro i h1 h2;rw [Array.getElem_setIfInBounds];split
   .rename_i e;subst e;rw [<- hv];simp [Array.getD,h2]
   .rfl
  simp only [this]
 refine ⟨br L st.next (.slice none 0 0),?_,fun b hb=>⟨hb.1,hb.2.1,fun k o hk hg=>?_⟩⟩
 rotate_left
 .have hk:af.get ((st.next,some (.row e sz [])) :: st.tab) k=some o:=hk;rw [af.gc] at hk;unfold br at hg;split at hk
  .rename_i e1;rw [Vo e1] at hg;simp [aO] at hg
  .rename_i e1;rw [Vj e1] at hg;exact hb.2.2 k o hk hg
 have:=kE (ob:=.row e sz []) (v:=.slice none 0 0) (x:=.slice none 0 0) (av:=.osl st.next) h (Below.refl _ _) (fun g hg=>by simp [aO] at hg) (fun hext=>⟨by simp,[],ku ..,by simp,by simp⟩) trivial (fun hext=>?_) (Wb _) (some t)
 .rw [hput] at this;exact this
 .refine .osl _ _ fun sz u hk=>?_;simp [Kx,af.gc,br] at hk;exact hk.2
theorem kn {st:aj} {n nx:Nat} {env:List (Nat × AV)} {tab:af} (h:st.n=n /\ (lY st env /\ mo st tab) /\ dC nx env /\ cX nx tab):dH st ⟨n,env,tab,nx⟩:=Me h.1 h.2.1.1 h.2.1.2 h.2.2.1 h.2.2.2
theorem mU {st:aj} {n nx:Nat} {env:List (Nat × AV)} {tab:af} (ids:List Nat) (h:ids.Nodup /\ st.n=n /\ (jZ st ids env /\ jA st ids tab) /\ dC nx env /\ cX nx tab):dH st ⟨n,env,tab,nx⟩:=JK ids h.1 h.2.1 h.2.2.1.1 h.2.2.1.2 h.2.2.2.1 h.2.2.2.2
def ap (st:aj) (t:Nat):Nat:=match st.get t with | .c (.int _ n)=>n.toNat | _=>0
theorem aB {x:Int} (h1:-9223372036854775808<=x) (h2:x<=9223372036854775807):IntKind.i64.wrap x=x:=by
 rw [IntKind.wrap_i64];omega
theorem oH {k:Nat} (h:k<=4611686018427387904):IntKind.i64.wrap ((k:Int)+1)=((k+1:Nat):Int):=by
 rw [aB (by omega) (by omega)];omega
def val (v:Value):cS:=⟨.c v,[],0⟩
theorem aI (v:Value):(val v).Ok:=⟨fun id o h=>(by cases h),trivial⟩
theorem wu {v:Value} {st:aj} {av:AV} (h:av=.c v):d9 (val v) st av:=⟨[],List.nodup_nil,by rw [h];rfl,trivial⟩
theorem DC {v:Value} {st:aj} {av:AV}:d9 (val v) st av=(av=.c v):=propext ⟨fun ⟨ren,_,h,_⟩=>h.symm,wu⟩
abbrev eI (n:Int):AV:=.c (.int .i64 n)
abbrev eB (b:Bool):AV:=.c (.bool b)
abbrev eS (s:ByteArray):AV:=.c (.string s)
abbrev sI (l:List Int):AV:=.sl 1 (l.map fun n=>[eI n])
theorem ab {α:Type} {f:α -> List AV} {l:List α} {k:Nat} (h:k<l.length):(l.map f)[k]?.getD []=f l[k]:=by
 rw [Ve,p0 h];rfl
theorem aL {P:Program} {g:FuncId} {args:List AV} {v:Value} {K:Value -> Prop} (h:aw P g args (val v)) (hk:K v):∃ v,aw P g args ⟨.c v,[],0⟩ /\ K v:=⟨v,h,hk⟩
theorem cZ {I:aj -> Prop} {μ:aj -> Nat} {n:Nat} {st st':aj} (hw:dH st st') (hI:I st') (hm:μ st'<n):tj I μ n st:=⟨st',hw,hI,hm⟩
end
section
theorem Qy:bA Tryz.prog 33=(61,7):=by kernel_rfl
theorem Uu:zd Tryz.prog 3=QV.int:=by kernel_rfl
theorem Tj:bP Tryz.prog 32=true:=by kernel_rfl
theorem Qn:ar Tryz.prog 32=10:=by kernel_rfl
theorem QT:b9 Tryz.prog 39=some (Value.agg #[Value.slice none 0 0,Value.slice none 0 0]):=by kernel_rfl
theorem Q2:b9 Tryz.prog 40=some (Value.agg #[Value.slice none 0 0,Value.slice none 0 0]):=by kernel_rfl
theorem PP:ar Tryz.prog 39=2:=by kernel_rfl
theorem Tf:ar Tryz.prog 40=2:=by kernel_rfl
theorem Rd:bP Tryz.prog 39=true:=by kernel_rfl
theorem Qm:bP Tryz.prog 40=true:=by kernel_rfl
theorem PM:bA Tryz.prog 43=(4,1):=by kernel_rfl
theorem Ux:bP Tryz.prog 4=false:=by kernel_rfl
theorem Uh:ar Tryz.prog 4=1:=by kernel_rfl
theorem TQ:zd Tryz.prog 4=QV.bool:=by kernel_rfl
theorem Sy:cJ Tryz.prog 55=some ([(0,1),(1,1)],[Value.int IntKind.i64 0,Value.int IntKind.i64 0]):=by kernel_rfl
theorem Qh:iT Tryz.prog 55=(2,1):=by kernel_rfl
theorem T2:bP Tryz.prog 3=false:=by kernel_rfl
theorem TL:ar Tryz.prog 3=1:=by kernel_rfl
theorem RC:dr Tryz.prog 87=some (3,1,8):=by kernel_rfl
theorem Q0:cJ Tryz.prog 61=some ([(0,1),(1,2),(3,2),(5,1),(6,1)],[Value.int IntKind.i64 0,Value.int IntKind.i64 0,Value.int IntKind.i64 0,Value.int IntKind.i64 0,Value.int IntKind.i64 0,Value.int IntKind.i64 0,Value.int IntKind.i64 0]):=by kernel_rfl
theorem SE:dr Tryz.prog 33=some (61,7,56):=by kernel_rfl
theorem SU:dr Tryz.prog 36=some (93,6,112):=by kernel_rfl
theorem RG:y8 36=false:=by kernel_rfl
theorem Sj:cJ Tryz.prog 63=some ([(0,1),(1,1),(2,1)],[Value.int IntKind.i64 0,Value.int IntKind.i64 0,Value.int IntKind.i64 0]):=by kernel_rfl
theorem P8:dr Tryz.prog 64=some (63,3,24):=by kernel_rfl
theorem Qi:dr Tryz.prog 37=some (64,1,24):=by kernel_rfl
theorem QL:cJ Tryz.prog 39=some ([(0,1),(1,1)],[Value.slice none 0 0,Value.slice none 0 0]):=by kernel_rfl
theorem Rh:cJ Tryz.prog 32=some ([(0,1),(1,1),(2,1),(3,1),(4,1),(5,1),(6,1),(7,1),(8,1),(9,1)],[Value.slice none 0 0,Value.slice none 0 0,Value.slice none 0 0,Value.slice none 0 0,Value.slice none 0 0,Value.slice none 0 0,Value.slice none 0 0,Value.slice none 0 0,Value.slice none 0 0,Value.slice none 0 0]):=by kernel_rfl
theorem PO:dr Tryz.prog 23=some (2,1,8):=by kernel_rfl
theorem Jg:bR Tryz.prog 32 6=some 6:=by kernel_rfl
theorem Sq:bP Tryz.prog 27=false:=by kernel_rfl
theorem QP:ar Tryz.prog 27=1:=by kernel_rfl
theorem RQ:bA Tryz.prog 27=(67,3):=by kernel_rfl
theorem K5:bR Tryz.prog 67 2=some 2:=by kernel_rfl
theorem R7:bP Tryz.prog 33=false:=by kernel_rfl
theorem So:ar Tryz.prog 33=1:=by kernel_rfl
theorem Jt:bR Tryz.prog 32 7=some 7:=by kernel_rfl
theorem Su:bP Tryz.prog 28=false:=by kernel_rfl
theorem Ri:ar Tryz.prog 28=1:=by kernel_rfl
theorem Sa:bA Tryz.prog 28=(69,5):=by kernel_rfl
theorem HT:bR Tryz.prog 69 3=some 3:=by kernel_rfl
theorem S0:bA Tryz.prog 23=(2,1):=by kernel_rfl
theorem Q1:cJ Tryz.prog 40=some ([(0,1),(1,1)],[Value.slice none 0 0,Value.slice none 0 0]):=by kernel_rfl
theorem Iw:bR Tryz.prog 40 0=some 0:=by kernel_rfl
theorem SZ:bP Tryz.prog 36=false:=by kernel_rfl
theorem Sg:ar Tryz.prog 36=1:=by kernel_rfl
theorem LM:bR Tryz.prog 40 1=some 1:=by kernel_rfl
theorem QM:bP Tryz.prog 37=false:=by kernel_rfl
theorem Tl:ar Tryz.prog 37=1:=by kernel_rfl
theorem LZ:bR Tryz.prog 39 0=some 0:=by kernel_rfl
theorem SL:bA Tryz.prog 36=(93,6):=by kernel_rfl
theorem JE:bR Tryz.prog 39 1=some 1:=by kernel_rfl
theorem Ry:bA Tryz.prog 37=(64,1):=by kernel_rfl
theorem QF:cJ Tryz.prog 82=some ([(0,1),(1,1)],[Value.slice none 0 0,Value.slice none 0 0]):=by kernel_rfl
theorem PQ:bA Tryz.prog 74=(84,10):=by kernel_rfl
theorem P5:bP Tryz.prog 84=true:=by kernel_rfl
theorem Ro:ar Tryz.prog 84=10:=by kernel_rfl
theorem Qt:b9 Tryz.prog 84=some (Value.agg #[Value.int IntKind.i64 0,Value.int IntKind.i64 0,Value.int IntKind.i64 0,Value.int IntKind.i64 0,Value.int IntKind.i64 0,Value.int IntKind.i64 0,Value.int IntKind.i64 0,Value.int IntKind.i64 0,Value.int IntKind.i64 0,Value.int IntKind.i64 0]):=by kernel_rfl
theorem L5:bR Tryz.prog 84 0=some 0:=by kernel_rfl
theorem Jd:bR Tryz.prog 82 1=some 1:=by kernel_rfl
theorem Td:bP Tryz.prog 80=false:=by kernel_rfl
theorem Sf:ar Tryz.prog 80=1:=by kernel_rfl
theorem J1:bR Tryz.prog 84 3=some 3:=by kernel_rfl
theorem RN:bP Tryz.prog 61=true:=by kernel_rfl
theorem Qk:ar Tryz.prog 61=7:=by kernel_rfl
theorem P7:dr Tryz.prog 80=some (43,1,24):=by kernel_rfl
theorem Tg:bA Tryz.prog 80=(43,1):=by kernel_rfl
theorem Ra:bP Tryz.prog 43=false:=by kernel_rfl
theorem QK:ar Tryz.prog 43=1:=by kernel_rfl
theorem QG:bP Tryz.prog 64=false:=by kernel_rfl
theorem QA:ar Tryz.prog 64=1:=by kernel_rfl
theorem RY:bA Tryz.prog 64=(63,3):=by kernel_rfl
theorem IB:bR Tryz.prog 63 2=some 2:=by kernel_rfl
theorem Sb:dr Tryz.prog 78=some (87,1,24):=by kernel_rfl
theorem Q3:bP Tryz.prog 93=true:=by kernel_rfl
theorem QU:ar Tryz.prog 93=6:=by kernel_rfl
theorem Qc:dr Tryz.prog 43=some (4,1,1):=by kernel_rfl
theorem Rx:bA Tryz.prog 53=(101,9):=by kernel_rfl
theorem Ih:bR Tryz.prog 61 0=some 0:=by kernel_rfl
theorem NX:cJ Tryz.prog 101=some ([(0,1),(1,2),(3,2),(5,1),(6,1),(7,2)],[Value.int IntKind.i64 0,Value.string ByteArray.empty,Value.int IntKind.i64 0,Value.string ByteArray.empty,Value.int IntKind.i64 0,Value.string ByteArray.empty,Value.string ByteArray.empty,Value.int IntKind.i64 0,Value.int IntKind.i64 0]):=by kernel_rfl
theorem Tm:dr Tryz.prog 53=some (101,9,104):=by kernel_rfl
theorem Q9:bA Tryz.prog 87=(3,1):=by kernel_rfl
theorem Sr:zd Tryz.prog 87=QV.slice:=by kernel_rfl
theorem LX:bR Tryz.prog 61 1=some 1:=by kernel_rfl
theorem Jp:bR Tryz.prog 59 0=some 0:=by kernel_rfl
theorem JF:bR Tryz.prog 59 1=some 1:=by kernel_rfl
theorem Ty:bP Tryz.prog 2=false:=by kernel_rfl
theorem TS:ar Tryz.prog 2=1:=by kernel_rfl
theorem Kk:bR Tryz.prog 61 2=some 3:=by kernel_rfl
theorem Uv:zd Tryz.prog 2=QV.int:=by kernel_rfl
theorem LT:bR Tryz.prog 32 4=some 4:=by kernel_rfl
theorem Ru:bP Tryz.prog 25=false:=by kernel_rfl
theorem S5:ar Tryz.prog 25=1:=by kernel_rfl
theorem RK:bA Tryz.prog 25=(141,2):=by kernel_rfl
theorem Ii:bR Tryz.prog 32 5=some 5:=by kernel_rfl
theorem Ql:bP Tryz.prog 26=false:=by kernel_rfl
theorem R6:ar Tryz.prog 26=1:=by kernel_rfl
theorem Sm:bA Tryz.prog 26=(103,5):=by kernel_rfl
theorem J0:bR Tryz.prog 32 0=some 0:=by kernel_rfl
theorem RZ:bP Tryz.prog 22=false:=by kernel_rfl
theorem Tn:ar Tryz.prog 22=1:=by kernel_rfl
theorem P9:bA Tryz.prog 22=(9,1):=by kernel_rfl
theorem Ji:bR Tryz.prog 32 2=some 2:=by kernel_rfl
theorem K9:bR Tryz.prog 32 3=some 3:=by kernel_rfl
theorem RF:bP Tryz.prog 24=false:=by kernel_rfl
theorem Rr:ar Tryz.prog 24=1:=by kernel_rfl
theorem Ss:bA Tryz.prog 24=(139,2):=by kernel_rfl
theorem J4:bR Tryz.prog 32 8=some 8:=by kernel_rfl
theorem Tc:bP Tryz.prog 29=false:=by kernel_rfl
theorem QC:ar Tryz.prog 29=1:=by kernel_rfl
theorem SK:bA Tryz.prog 29=(146,2):=by kernel_rfl
theorem L6:bR Tryz.prog 32 9=some 9:=by kernel_rfl
theorem RO:bP Tryz.prog 30=false:=by kernel_rfl
theorem Sc:ar Tryz.prog 30=1:=by kernel_rfl
theorem SP:bA Tryz.prog 30=(151,2):=by kernel_rfl
theorem Kn:bR Tryz.prog 32 1=some 1:=by kernel_rfl
theorem QS:bP Tryz.prog 23=false:=by kernel_rfl
theorem Sw:ar Tryz.prog 23=1:=by kernel_rfl
theorem GT:bR Tryz.prog 103 3=some 3:=by kernel_rfl
theorem Rl:bP Tryz.prog 87=false:=by kernel_rfl
theorem Q5:ar Tryz.prog 87=1:=by kernel_rfl
theorem MP:bA Tryz.prog 111=(115,8):=by kernel_rfl
theorem F7:bR Tryz.prog 115 2=some 2:=by kernel_rfl
theorem FU:bR Tryz.prog 115 0=some 0:=by kernel_rfl
theorem Fc:bR Tryz.prog 115 1=some 1:=by kernel_rfl
theorem RW:b9 Tryz.prog 61=some (Value.agg #[Value.int IntKind.i64 0,Value.int IntKind.i64 0,Value.int IntKind.i64 0,Value.int IntKind.i64 0,Value.int IntKind.i64 0,Value.int IntKind.i64 0,Value.int IntKind.i64 0]):=by kernel_rfl
theorem NV:cJ Tryz.prog 119=some ([(0,1),(1,1),(2,1)],[Value.slice none 0 0,Value.map none,Value.slice none 0 0]):=by kernel_rfl
theorem FA:bR Tryz.prog 119 2=some 2:=by kernel_rfl
theorem Hi:bR Tryz.prog 119 0=some 0:=by kernel_rfl
theorem Qr:bP Tryz.prog 74=false:=by kernel_rfl
theorem Rc:ar Tryz.prog 74=1:=by kernel_rfl
theorem Te:bP Tryz.prog 63=true:=by kernel_rfl
theorem RL:ar Tryz.prog 63=3:=by kernel_rfl
theorem Rb:b9 Tryz.prog 63=some (Value.agg #[Value.int IntKind.i64 0,Value.int IntKind.i64 0,Value.int IntKind.i64 0]):=by kernel_rfl
theorem P0:b9 Tryz.prog 93=some (Value.agg #[Value.slice none 0 0,Value.slice none 0 0,Value.int IntKind.i64 0,Value.int IntKind.i64 0,Value.slice none 0 0,Value.slice none 0 0]):=by kernel_rfl
theorem IC:bR Tryz.prog 84 1=some 1:=by kernel_rfl
theorem Ls:bR Tryz.prog 84 2=some 2:=by kernel_rfl
theorem LV:bR Tryz.prog 82 0=some 0:=by kernel_rfl
theorem QQ:bP Tryz.prog 78=false:=by kernel_rfl
theorem SY:ar Tryz.prog 78=1:=by kernel_rfl
theorem KJ:bR Tryz.prog 93 0=some 0:=by kernel_rfl
theorem R8:bP Tryz.prog 91=true:=by kernel_rfl
theorem RB:ar Tryz.prog 91=2:=by kernel_rfl
theorem N7:cJ Tryz.prog 132=some ([(0,1),(1,1),(2,1),(3,1),(4,1)],[Value.slice none 0 0,Value.int IntKind.i64 0,Value.int IntKind.i64 0,Value.slice none 0 0,Value.slice none 0 0]):=by kernel_rfl
theorem Qp:bA Tryz.prog 78=(87,1):=by kernel_rfl
theorem GA:bR Tryz.prog 101 0=some 0:=by kernel_rfl
theorem F1:bR Tryz.prog 139 1=some 1:=by kernel_rfl
theorem G5:bR Tryz.prog 141 1=some 1:=by kernel_rfl
theorem Nu:bP Tryz.prog 103=true:=by kernel_rfl
theorem Ni:ar Tryz.prog 103=5:=by kernel_rfl
theorem MF:b9 Tryz.prog 103=some (Value.agg #[Value.string ByteArray.empty,Value.int IntKind.i64 0,Value.int IntKind.i64 0,Value.slice none 0 0,Value.int IntKind.i64 0]):=by kernel_rfl
theorem GE:bR Tryz.prog 103 1=some 1:=by kernel_rfl
theorem EV:bR Tryz.prog 103 2=some 2:=by kernel_rfl
theorem Si:bP Tryz.prog 67=true:=by kernel_rfl
theorem Qf:ar Tryz.prog 67=3:=by kernel_rfl
theorem Qq:b9 Tryz.prog 67=some (Value.agg #[Value.int IntKind.i64 0,Value.int IntKind.i64 0,Value.slice none 0 0]):=by kernel_rfl
theorem KK:bR Tryz.prog 67 0=some 0:=by kernel_rfl
theorem Mb:bR Tryz.prog 67 1=some 1:=by kernel_rfl
theorem S9:bP Tryz.prog 69=true:=by kernel_rfl
theorem R4:ar Tryz.prog 69=5:=by kernel_rfl
theorem Rt:b9 Tryz.prog 69=some (Value.agg #[Value.string ByteArray.empty,Value.int IntKind.i64 0,Value.int IntKind.i64 0,Value.slice none 0 0,Value.bool false]):=by kernel_rfl
theorem LL:bR Tryz.prog 69 1=some 1:=by kernel_rfl
theorem JQ:bR Tryz.prog 69 2=some 2:=by kernel_rfl
theorem EZ:bR Tryz.prog 146 0=some 0:=by kernel_rfl
theorem GY:bR Tryz.prog 146 1=some 1:=by kernel_rfl
theorem GL:bR Tryz.prog 103 4=some 4:=by kernel_rfl
theorem QY:y8 43=false:=by kernel_rfl
theorem S8:dr Tryz.prog 30=some (151,2,16):=by kernel_rfl
theorem Pd:bP Tryz.prog 151=true:=by kernel_rfl
theorem Ng:ar Tryz.prog 151=2:=by kernel_rfl
theorem O2:b9 Tryz.prog 132=some (Value.agg #[Value.slice none 0 0,Value.int IntKind.i64 0,Value.int IntKind.i64 0,Value.slice none 0 0,Value.slice none 0 0]):=by kernel_rfl
theorem M7:ar Tryz.prog 132=5:=by kernel_rfl
theorem Lh:bR Tryz.prog 93 4=some 5:=by kernel_rfl
theorem M8:bP Tryz.prog 132=true:=by kernel_rfl
theorem ML:bA Tryz.prog 156=(91,2):=by kernel_rfl
theorem Oa:cJ Tryz.prog 115=some ([(0,1),(1,1),(2,6)],[Value.int IntKind.i64 0,Value.int IntKind.i64 0,Value.slice none 0 0,Value.slice none 0 0,Value.int IntKind.i64 0,Value.int IntKind.i64 0,Value.slice none 0 0,Value.slice none 0 0]):=by kernel_rfl
theorem Mv:b9 Tryz.prog 115=some (Value.agg #[Value.int IntKind.i64 0,Value.int IntKind.i64 0,Value.slice none 0 0,Value.slice none 0 0,Value.int IntKind.i64 0,Value.int IntKind.i64 0,Value.slice none 0 0,Value.slice none 0 0]):=by kernel_rfl
theorem NT:ar Tryz.prog 115=8:=by kernel_rfl
theorem MC:bP Tryz.prog 115=true:=by kernel_rfl
theorem MK:dr Tryz.prog 111=some (115,8,128):=by kernel_rfl
theorem RD:cJ Tryz.prog 84=some ([(0,1),(1,1),(2,1),(3,7)],[Value.int IntKind.i64 0,Value.int IntKind.i64 0,Value.int IntKind.i64 0,Value.int IntKind.i64 0,Value.int IntKind.i64 0,Value.int IntKind.i64 0,Value.int IntKind.i64 0,Value.int IntKind.i64 0,Value.int IntKind.i64 0,Value.int IntKind.i64 0]):=by kernel_rfl
theorem NJ:b9 Tryz.prog 176=some (Value.agg #[Value.slice none 0 0]):=by kernel_rfl
theorem PG:y8 87=false:=by kernel_rfl
theorem RU:bP Tryz.prog 59=true:=by kernel_rfl
theorem Qs:ar Tryz.prog 59=2:=by kernel_rfl
theorem PZ:cJ Tryz.prog 59=some ([(0,1),(1,1)],[Value.int IntKind.i64 0,Value.int IntKind.i64 0]):=by kernel_rfl
theorem FI:bR Tryz.prog 132 1=some 1:=by kernel_rfl
theorem JO:bR Tryz.prog 61 3=some 5:=by kernel_rfl
theorem Fj:bR Tryz.prog 132 2=some 2:=by kernel_rfl
theorem La:bR Tryz.prog 61 4=some 6:=by kernel_rfl
theorem Kl:bR Tryz.prog 93 1=some 2:=by kernel_rfl
theorem KY:bR Tryz.prog 93 2=some 3:=by kernel_rfl
theorem JM:bR Tryz.prog 93 3=some 4:=by kernel_rfl
theorem Pa:b9 Tryz.prog 151=some (Value.agg #[Value.bool false,Value.int IntKind.i64 0]):=by kernel_rfl
theorem M5:cJ Tryz.prog 151=some ([(0,1),(1,1)],[Value.bool false,Value.int IntKind.i64 0]):=by kernel_rfl
theorem EX:bR Tryz.prog 132 0=some 0:=by kernel_rfl
theorem GH:bR Tryz.prog 132 4=some 4:=by kernel_rfl
theorem Fk:bR Tryz.prog 132 3=some 3:=by kernel_rfl
theorem SM:cJ Tryz.prog 93=some ([(0,2),(2,1),(3,1),(4,1),(5,1)],[Value.slice none 0 0,Value.slice none 0 0,Value.int IntKind.i64 0,Value.int IntKind.i64 0,Value.slice none 0 0,Value.slice none 0 0]):=by kernel_rfl
theorem Sp:y8 23=false:=by kernel_rfl
theorem N5:dr Tryz.prog 156=some (91,2,48):=by kernel_rfl
theorem Rp:b9 Tryz.prog 32=some (Value.agg #[Value.slice none 0 0,Value.slice none 0 0,Value.slice none 0 0,Value.slice none 0 0,Value.slice none 0 0,Value.slice none 0 0,Value.slice none 0 0,Value.slice none 0 0,Value.slice none 0 0,Value.slice none 0 0]):=by kernel_rfl
theorem HA:bR Tryz.prog 119 1=some 1:=by kernel_rfl
theorem N6:bP Tryz.prog 117=false:=by kernel_rfl
theorem Oh:ar Tryz.prog 117=1:=by kernel_rfl
theorem MH:rh Tryz.prog 117=some (84,3):=by kernel_rfl
theorem SQ:dr Tryz.prog 74=some (84,10,80):=by kernel_rfl
theorem Hz:bR Tryz.prog 176 0=some 0:=by kernel_rfl
theorem KR:bR Tryz.prog 91 0=some 0:=by kernel_rfl
theorem RX:bP Tryz.prog 89=false:=by kernel_rfl
theorem QB:ar Tryz.prog 89=1:=by kernel_rfl
theorem Q8:bA Tryz.prog 89=(213,2):=by kernel_rfl
theorem Ov:bP Tryz.prog 213=true:=by kernel_rfl
theorem NQ:ar Tryz.prog 213=2:=by kernel_rfl
theorem NI:b9 Tryz.prog 213=some (Value.agg #[Value.int IntKind.i64 0,Value.int IntKind.i64 0]):=by kernel_rfl
theorem G4:bR Tryz.prog 213 0=some 0:=by kernel_rfl
theorem Hu:bR Tryz.prog 213 1=some 1:=by kernel_rfl
theorem Lo:bR Tryz.prog 69 4=some 4:=by kernel_rfl
theorem SJ:b9 Tryz.prog 91=some (Value.agg #[Value.slice none 0 0,Value.slice none 0 0]):=by kernel_rfl
theorem OV:cJ Tryz.prog 213=some ([(0,1),(1,1)],[Value.int IntKind.i64 0,Value.int IntKind.i64 0]):=by kernel_rfl
theorem Mj:bR Tryz.prog 91 1=some 1:=by kernel_rfl
theorem Qj:dr Tryz.prog 89=some (213,2,16):=by kernel_rfl
theorem MG:bA Tryz.prog 222=(55,2):=by kernel_rfl
theorem Qe:cJ Tryz.prog 91=some ([(0,1),(1,1)],[Value.slice none 0 0,Value.slice none 0 0]):=by kernel_rfl
theorem PJ:dr Tryz.prog 27=some (67,3,40):=by kernel_rfl
theorem QW:dr Tryz.prog 28=some (69,5,64):=by kernel_rfl
theorem ET:bR Tryz.prog 151 0=some 0:=by kernel_rfl
theorem F9:bR Tryz.prog 151 1=some 1:=by kernel_rfl
theorem UK:b9 Tryz.prog 4=some (Value.bool false):=by kernel_rfl
theorem MO:dr Tryz.prog 222=some (55,2,16):=by kernel_rfl
theorem Ub:b9 Tryz.prog 3=some (Value.int IntKind.i64 0):=by kernel_rfl
theorem NE:bP Tryz.prog 146=true:=by kernel_rfl
theorem MU:ar Tryz.prog 146=2:=by kernel_rfl
theorem N1:b9 Tryz.prog 146=some (Value.agg #[Value.int IntKind.i64 0,Value.int IntKind.i64 0]):=by kernel_rfl
theorem Ud:b9 Tryz.prog 2=some (Value.int IntKind.i64 0):=by kernel_rfl
end
section
def SC (P:Program) (c:Code) (Q:Exit -> aj -> Prop) (st:aj):Prop:=∀ (cx:Cx) (a:Act) (w:World) (L:Nat -> Value),aH cx a w st L -> c.wp P (pB cx Q) a w
section
variable {P:Program} {x y:Code} {Q Q':Exit -> aj -> Prop} {st st':aj}
theorem ng (hm:P.follows .mixedOrders=true) (h:bD P x Q st):SC P x Q st:=fun cx a w L hc=>pq hm x Q a w st L hc h
theorem SC.mono (h:SC P x Q st) (hq:∀ e st,Q e st -> Q' e st):SC P x Q' st:=fun cx a w L hc=>Code.wp_mono (fun e a w ⟨st',L',h1,h2⟩=>⟨st',L',hq e st' h1,h2⟩) (h cx a w L hc)
theorem SC.weak (hw:dH st st') (h:SC P x Q st'):SC P x Q st:=fun cx a w L hc=>(hw cx a w L hc).elim fun L' hc'=>h cx a w L' hc'.1
theorem Q7 (h:SC P x (mj (SC P y Q) Q) st):SC P (.seq x y) Q st:=fun cx a w L hc=>
 wp_seq (Code.wp_mono (fun e a' w' ⟨st',L',h1,h2⟩=>by
  cases e with
  | normal=>exact h1 cx a' w' L' h2
  | _=>exact ⟨st',L',h1,h2⟩) (h cx a w L hc))
theorem fJ {I:aj -> Prop} (hw:dH st st') (h:I st'):Mp I st:=⟨st',hw,h⟩
theorem lr (I:aj -> Prop) (h:SC P x (mj (Mp I) Q) st) (h2:∀ st,I st -> SC P y Q st):SC P (.seq x y) Q st:=
 Q7 (h.mono fun e st h=>by
  cases e with
  | normal=>
   obtain ⟨st',hw,hI⟩:=h;exact (h2 st' hI).weak hw
  | _=>exact h)
end
theorem BO {P : Program} {f : FuncId} {fn : Func} {c : Code} (hf : P.funcs[f]? = some fn) (hb : fn.body = some c) (hname : (fn.name == "runtime.NumGoroutine") = false) {args : List AV} {R : cS} {n : Nat} (hnt : fn.ntmps = n) {rs : List ResultVar} (hrs : fn.results = rs.toArray) (hn : Nat.ble args.length n = true)
  (hok:R.Ok) (h:SC P c (Ke P rs R) ⟨n,dg 0 args,[],0⟩):aw P f args R:=tM hf hb hname hnt hrs hn hok h
theorem fQ {P:Program} {f:FuncId} {args:List AV} {v:Value} (he:fL P f)
  (h:∀ (S:Nat -> Prop) (w:World) (vs:Array Value),Gu w S -> vs.size=args.length -> (∀ (j:Nat) (v:Value) (av:AV),vs[j]? = some v -> args[j]? = some av -> RT w S v av) -> Calls P f vs w fun e w'=>e=.returned v /\ Below w.heap.size w w'):aw P f args (val v):=
 ⟨he,fun S w vs h1 h2 h3=>(h S w vs h1 h2 h3).mono fun e w' ⟨h4,h5⟩=>⟨v,fun _=>undef,val v,rfl,aI v,h4,⟨j0 h5,fun id o h=>(by cases h),fun id id' o o' g h=>(by cases h),fun b hb=>hb.elim⟩,.tree (.c v)⟩⟩
theorem aw.calls {P:Program} {f:FuncId} {args:List AV} {v:Value} (h:aw P f args (val v)) {w:World} {vs:Array Value} (h2:vs.size=args.length) (h3:∀ (j:Nat) (v:Value) (av:AV),vs[j]? = some v -> args[j]? = some av -> RT w (fun b=>b<w.heap.size) v av) (hA:Eb w:=by exact Ob _) :
  Calls P f vs w fun e w'=>e=.returned v /\ Below w.heap.size w w':=
 (h.2 _ w vs ⟨fun b hb=>hb,hA,fun b hb=>Vn hb hA.le⟩ h2 h3).mono fun e w' ⟨v',L,R,h0,_,h4,h5,h6⟩=>by
  subst h0;obtain rfl:=h6.c_inv;exact ⟨h4,h5.below.below fun b hb=>hb⟩
def g8 (e:TypeId) (sz:Nat) (rows:List (List AV)):cS:=⟨.osl 0,[(0,some (.row e sz rows))],1⟩
theorem ch (e:TypeId) (sz:Nat) (rows:List (List AV)):(g8 e sz rows).Ok:=by
 refine ⟨fun id o h=>?_,XL⟩;simp only [g8,af.gc] at h;split at h
 .rename_i e;cases h;subst e;exact ⟨XL,trivial⟩
 .cases h
theorem aM {e:TypeId} {sz:Nat} {rows:List (List AV)} {st:aj} {id:Nat}:st.tab.get id=some (.row e sz rows) -> d9 (g8 e sz rows) st (.osl id):=fun h=>
 ⟨[id],by simp,rfl,⟨XL,⟨e,sz,rows,rfl⟩,h⟩,trivial⟩
theorem cI {Post:cS -> Prop} {st:aj} {v:Value} (h:Post (val v)):∃ R,Post R /\ R.Ok /\ d9 R st (.c v):=⟨_,h,aI v,wu rfl⟩
theorem tt {Post:cS -> Prop} {st:aj} {id:Nat} {e:TypeId} {sz:Nat} {rows:List (List AV)} (hg:st.tab.get id=some (.row e sz rows)) (h:Post (g8 e sz rows)):∃ R,Post R /\ R.Ok /\ d9 R st (.osl id):=⟨_,h,ch ..,aM hg⟩
theorem tQ {u:Option (Nat × List Nat)} {P:Program} {st:aj} {g:FuncId} {args:List AV} {K:AV -> aj -> Prop} {Post:cS -> Prop} (h:dQ P g (args.map (gB st.tab)) Post) (hk:∀ R,Post R -> (fc args \/ (R.r.plain /\ R.tab.plain)) /\ K (R.r.shift st.next) { st with tab:=R.tab.shift st.next ++ st.tab,next:=st.next+R.n }):gD u P st g args K:=.inl (.inl ⟨Post,h,hk⟩)
theorem sG {u:Option (Nat × List Nat)} {P:Program} {st:aj} {g:FuncId} {args:List AV} {K:AV -> aj -> Prop} {R:cS} (h:aw P g (args.map (gB st.tab)) R) (ho:fc args \/ (R.r.plain /\ R.tab.plain)) (hk:K (R.r.shift st.next) { st with tab:=R.tab.shift st.next ++ st.tab,next:=st.next+R.n }):gD u P st g args K:=
 .inl (.inl ⟨_,h,fun R' e=>by subst e;exact ⟨ho,hk⟩⟩)
theorem ax {u:Option (Nat × List Nat)} {P:Program} {st:aj} {g:FuncId} {args:List AV} {dst:Option Nat} {K:aj -> Prop} {v:Value} (h:aw P g (args.map (gB st.tab)) (val v)) (hk:K (st.put dst (.c v))):gD u P st g args (vW dst K):=
 sG h (.inr ⟨trivial,trivial⟩) hk
def Vc:=(And.intro (And.intro (And.intro (And.intro (And.intro (And.intro (And.intro @BG @Ca) (And.intro @Cf @E8)) (And.intro (And.intro @CM @AP) (And.intro @Cq @Co))) (And.intro (And.intro (And.intro @GI @xH) (And.intro @Cm @Fs)) (And.intro (And.intro @ry @yk) (And.intro @uG @Cn)))) (And.intro (And.intro (And.intro (And.intro @KL @Sk) (And.intro @UA @SS)) (And.intro (And.intro @PX @OE) (And.intro @Od @K4))) (And.intro (And.intro (And.intro @G9 @Hl) (And.intro @Fg @K6)) (And.intro (And.intro @Dn @CX) (And.intro @Hd (And.intro @zV @zJ)))))) (And.intro (And.intro (And.intro (And.intro (And.intro @CU @xW) (And.intro @uN @Rk)) (And.intro (And.intro @Tk @P2) (And.intro @Rv @Ks))) (And.intro (And.intro (And.intro @Hn @ER) (And.intro @Dz @A7)) (And.intro (And.intro @Jz @CH) (And.intro @JN (And.intro @LU @G0))))) (And.intro (And.intro (And.intro (And.intro @E6 @O1) (And.intro @SA @AL)) (And.intro (And.intro @N9 @BD) (And.intro @H5 @yh))) (And.intro (And.intro (And.intro @N3 @F5) (And.intro @F8 @sm)) (And.intro (And.intro @uS @GP) (And.intro @Fx (And.intro @zI @Fi))))))) (And.intro (And.intro (And.intro (And.intro (And.intro (And.intro @FZ @C6) (And.intro @CG @Lb)) (And.intro (And.intro @OH @IT) (And.intro @Ge @FV))) (And.intro (And.intro (And.intro @DC @ST) (And.intro @Pb @FM)) (And.intro (And.intro @zj @Dm) (And.intro @yK @Gb)))) (And.intro (And.intro (And.intro (And.intro @DA @CJ) (And.intro @GQ @zB)) (And.intro (And.intro @xQ @xw) (And.intro @xy @GX))) (And.intro (And.intro (And.intro @wO @A8) (And.intro @zm @Ax)) (And.intro (And.intro @xL @wP) (And.intro @DB (And.intro @GR @tR)))))) (And.intro (And.intro (And.intro (And.intro (And.intro @A4 @Gt) (And.intro @xr @FY)) (And.intro (And.intro @wW @BM) (And.intro @zh @xO))) (And.intro (And.intro (And.intro @BP @pN) (And.intro @C8 @DK)) (And.intro (And.intro @BK @Av) (And.intro @yX (And.intro @F3 @Ip))))) (And.intro (And.intro (And.intro (And.intro @uB @FR) (And.intro @Fu @y9)) (And.intro (And.intro @xi @rz) (And.intro @M2 @MB))) (And.intro (And.intro (And.intro @Au @Dt) (And.intro @yE @uI)) (And.intro (And.intro @x8 @Al) (And.intro @xj (And.intro @rE @MQ))))))))
def Va:=(And.intro (And.intro (And.intro (And.intro (And.intro @af.gc (And.intro @WT @XE)) (And.intro (And.intro @WR @WP) (And.intro @WL @Wm))) (And.intro (And.intro (And.intro @V1 @VL) (And.intro @VN @Wq)) (And.intro (And.intro @List.drop_succ_cons.{0} @Xy) (And.intro @List.take_succ_cons.{0} @Vu)))) (And.intro (And.intro (And.intro (And.intro @List.headD_cons.{0} @Vp) (And.intro @XP @Xa)) (And.intro (And.intro @true_and @and_true) (And.intro @VG @Ww))) (And.intro (And.intro (And.intro @WW @Wr) (And.intro @Xz @XM)) (And.intro (And.intro @AV.c.injEq @Value.bool.injEq) (And.intro @Value.int.injEq @false_implies))))) (And.intro (And.intro (And.intro (And.intro (And.intro @VJ @VA) (And.intro @W4 @Int.ofNat_lt)) (And.intro (And.intro @Int.ofNat_le @Wy) (And.intro @not_false_eq_true @not_true_eq_false))) (And.intro (And.intro (And.intro @Vh @false_and) (And.intro @and_false @Nat.succ_ne_zero)) (And.intro (And.intro @imp_self @true_implies) (And.intro @decide_true @decide_false)))) (And.intro (And.intro (And.intro (And.intro @WB @W5) (And.intro @Vd @Wf)) (And.intro (And.intro @List.not_mem_nil.{0} @or_false) (And.intro @Wt @Wl))) (And.intro (And.intro (And.intro @VT @Option.map_none.{0,0}) (And.intro @Option.isSome_some.{0} @Option.isSome_none.{0})) (And.intro (And.intro @Xo @Vq) (And.intro @true_or @or_true))))))
def iz:=(And.intro (And.intro (And.intro (And.intro @af.gc @and_true) (And.intro @true_and (And.intro @AV.c.injEq @Value.int.injEq))) (And.intro (And.intro @Value.bool.injEq @XP) (And.intro @Xa (And.intro @Xz @XM)))) (And.intro (And.intro (And.intro @Nat.succ_ne_zero @not_true_eq_false) (And.intro @not_false_eq_true (And.intro @W4 @V1))) (And.intro (And.intro @VL (And.intro @Ww @WW)) (And.intro @Wr (And.intro @decide_true @decide_false)))))
def uy:=And.intro Vc (And.intro Va (And.intro (And.intro (And.intro (And.intro (And.intro (And.intro (And.intro (And.intro (And.intro @bm.eq_1 @bm.eq_2) (And.intro @bm.eq_3 @bm.eq_4)) (And.intro (And.intro @ov.eq_1 @kh.eq_1) (And.intro @kh.eq_2 @kh.eq_3))) (And.intro (And.intro (And.intro @nS.eq_1 @jl.eq_1) (And.intro @jl.eq_2 @jl.eq_3)) (And.intro (And.intro @jl.eq_4 @jl.eq_5) (And.intro @uv.eq_1 @uv.eq_2)))) (And.intro (And.intro (And.intro (And.intro @uv.eq_3 @uv.eq_4) (And.intro @uv.eq_5 @xT.eq_1)) (And.intro (And.intro @xT.eq_2 @xT.eq_3) (And.intro @xT.eq_4 @fP.eq_1))) (And.intro (And.intro (And.intro @fP.eq_2 @fP.eq_3) (And.intro @fP.eq_4 @fP.eq_5)) (And.intro (And.intro @fP.eq_6 @fP.eq_7) (And.intro @fP.eq_8 @fP.eq_9))))) (And.intro (And.intro (And.intro (And.intro (And.intro @fP.eq_10 @fP.eq_11) (And.intro @fP.eq_12 @fP.eq_13)) (And.intro (And.intro @fP.eq_14 @fP.eq_15) (And.intro @fP.eq_16 @fP.eq_17))) (And.intro (And.intro (And.intro @fP.eq_18 @fP.eq_19) (And.intro @fP.eq_20 @fP.eq_21)) (And.intro (And.intro @fP.eq_22 @fP.eq_23) (And.intro @fP.eq_24 @fP.eq_25)))) (And.intro (And.intro (And.intro (And.intro @fP.eq_26 @fP.eq_27) (And.intro @fP.eq_28 @P6.eq_1)) (And.intro (And.intro @P6.eq_2 @PA.eq_1) (And.intro @PA.eq_2 @PA.eq_3))) (And.intro (And.intro (And.intro @PA.eq_4 @PA.eq_5) (And.intro @ks.eq_1 @ks.eq_2)) (And.intro (And.intro @aj.get.eq_1 @bb.eq_1) (And.intro @bb.eq_2 (And.intro @aj.put.eq_1 @aj.put.eq_2))))))) (And.intro (And.intro (And.intro (And.intro (And.intro (And.intro @qq.eq_1 @qq.eq_2) (And.intro @yZ.eq_1 @kk.eq_1)) (And.intro (And.intro @ez.eq_1 @ml.eq_1) (And.intro @tP.eq_1 @tP.eq_2))) (And.intro (And.intro (And.intro @kc.eq_1 @kc.eq_2) (And.intro @tu.eq_1 @tu.eq_2)) (And.intro (And.intro @tu.eq_3 @Ep.eq_1) (And.intro @Ep.eq_2 @yv.eq_1)))) (And.intro (And.intro (And.intro (And.intro @yv.eq_2 @aq.eq_1) (And.intro @aq.eq_2 @aq.eq_3)) (And.intro (And.intro @tB.eq_1 @tB.eq_2) (And.intro @tB.eq_3 @tB.eq_4))) (And.intro (And.intro (And.intro @tB.eq_5 @tB.eq_6) (And.intro @tB.eq_7 @tB.eq_8)) (And.intro (And.intro @eX.eq_1 @eX.eq_2) (And.intro @aY.eq_1 (And.intro @aY.eq_2 @aY.eq_3)))))) (And.intro (And.intro (And.intro (And.intro (And.intro @aY.eq_4 @aY.eq_5) (And.intro @aY.eq_6 @aY.eq_7)) (And.intro (And.intro @aR.eq_1 @aR.eq_2) (And.intro @kN.eq_1 @kN.eq_2))) (And.intro (And.intro (And.intro @Nj @Lz) (And.intro @AM.eq_1 @AM.eq_2)) (And.intro (And.intro @xl.eq_1 @xl.eq_2) (And.intro @xl.eq_3 @Ag.eq_1)))) (And.intro (And.intro (And.intro (And.intro @Ag.eq_2 @Ag.eq_3) (And.intro @Ag.eq_4 @bT.eq_1)) (And.intro (And.intro @bT.eq_2 @Go.Value.cells.eq_1) (And.intro @Go.Value.cells.eq_2 @Go.Value.oneCell'.eq_1))) (And.intro (And.intro (And.intro @Go.Value.oneCell'.eq_2 @Go.Value.oneCell'.eq_3) (And.intro @dg.eq_1 @dg.eq_2)) (And.intro (And.intro @db.eq_1 @db.eq_2) (And.intro @db.eq_3 (And.intro @gC.eq_1 @gC.eq_2)))))))) (And.intro (And.intro (And.intro (And.intro (And.intro (And.intro (And.intro @gB.eq_1 @gB.eq_2) (And.intro @gB.eq_3 @gB.eq_4)) (And.intro (And.intro @gB.eq_5 @gB.eq_6) (And.intro @gB.eq_7 @gB.eq_8))) (And.intro (And.intro (And.intro @gB.eq_9 @gB.eq_10) (And.intro @f8.eq_1 @f8.eq_2)) (And.intro (And.intro @f8.eq_3 @f8.eq_4) (And.intro @f8.eq_5 @f8.eq_6)))) (And.intro (And.intro (And.intro (And.intro @f8.eq_7 @f8.eq_8) (And.intro @f8.eq_9 @f8.eq_10)) (And.intro (And.intro @ij.eq_1 @ij.eq_2) (And.intro @ij.eq_3 @ij.eq_4))) (And.intro (And.intro (And.intro @ij.eq_5 @ij.eq_6) (And.intro @ij.eq_7 @ij.eq_8)) (And.intro (And.intro @ij.eq_9 @ij.eq_10) (And.intro @CS.eq_1 (And.intro @CS.eq_2 @oM.eq_1)))))) (And.intro (And.intro (And.intro (And.intro (And.intro @tm.eq_1 @tm.eq_2) (And.intro @p8.eq_1 @p8.eq_2)) (And.intro (And.intro @yo.eq_1 @yo.eq_2) (And.intro @AR.eq_1 @AR.eq_2))) (And.intro (And.intro (And.intro @AR.eq_3 @wK.eq_1) (And.intro @wK.eq_2 @jr.eq_1)) (And.intro (And.intro @jr.eq_2 @gl.eq_1) (And.intro @Ts.eq_1 @Ts.eq_2)))) (And.intro (And.intro (And.intro (And.intro @lO.eq_1 @lO.eq_2) (And.intro @lO.eq_3 @qV.eq_1)) (And.intro (And.intro @qV.eq_2 @qW.eq_1) (And.intro @qW.eq_2 @pv.eq_1))) (And.intro (And.intro (And.intro @pv.eq_2 @pv.eq_3) (And.intro @pv.eq_4 @pv.eq_5)) (And.intro (And.intro @nY.eq_1 @nY.eq_2) (And.intro @nY.eq_3 (And.intro @nY.eq_4 @iq.eq_1))))))) (And.intro (And.intro (And.intro (And.intro (And.intro (And.intro @iq.eq_2 @iE.eq_1) (And.intro @gM.eq_1 @gM.eq_2)) (And.intro (And.intro @gM.eq_3 @AV.frz.eq_1) (And.intro @AV.frz.eq_2 @AV.frz.eq_3))) (And.intro (And.intro (And.intro @AV.frz.eq_4 @AV.frz.eq_5) (And.intro @AV.frz.eq_6 @AV.frz.eq_7)) (And.intro (And.intro @AV.frz.eq_8 @AV.frz.eq_9) (And.intro @AV.frz.eq_10 @AV.frzL.eq_1)))) (And.intro (And.intro (And.intro (And.intro @AV.frzL.eq_2 @gj.eq_1) (And.intro @gj.eq_2 @AV.shift.eq_1)) (And.intro (And.intro @AV.shift.eq_2 @AV.shift.eq_3) (And.intro @AV.shift.eq_4 @AV.shift.eq_5))) (And.intro (And.intro (And.intro @AV.shift.eq_6 @AV.shift.eq_7) (And.intro @AV.shift.eq_8 @AV.shift.eq_9)) (And.intro (And.intro @AV.shift.eq_10 @AV.shiftL.eq_1) (And.intro @AV.shiftL.eq_2 (And.intro @rR.eq_1 @jI.eq_1)))))) (And.intro (And.intro (And.intro (And.intro (And.intro @jI.eq_2 @oa.eq_1) (And.intro @oa.eq_2 @l9.eq_1)) (And.intro (And.intro @l9.eq_2 @l9.eq_3) (And.intro @rJ.eq_1 @rJ.eq_2))) (And.intro (And.intro (And.intro @rL.eq_1 @rL.eq_2) (And.intro @HI.eq_1 @HI.eq_2)) (And.intro (And.intro @HI.eq_3 @GD.eq_1) (And.intro @GD.eq_2 @GD.eq_3)))) (And.intro (And.intro (And.intro (And.intro @jY.eq_1 @jY.eq_2) (And.intro @wh.eq_1 @b8.eq_1)) (And.intro (And.intro @b8.eq_2 @aD.frz.eq_1) (And.intro @aD.frz.eq_2 @aD.frz.eq_3))) (And.intro (And.intro (And.intro @aD.frz.eq_4 @aD.frz.eq_5) (And.intro @PD.eq_1 @PD.eq_2)) (And.intro (And.intro @Bf.eq_1 @Bf.eq_2) (And.intro @Bf.eq_3 (And.intro @lp.eq_1 @zW.eq_1))))))))) (And.intro (And.intro (And.intro (And.intro (And.intro (And.intro (And.intro (And.intro @zW.eq_2 @zW.eq_3) (And.intro @wD.eq_1 @wD.eq_2)) (And.intro (And.intro @sX.eq_1 @sX.eq_2) (And.intro @kP.eq_1 @kP.eq_2))) (And.intro (And.intro (And.intro @kW.eq_1 @kW.eq_2) (And.intro @rH.eq_1 @rH.eq_2)) (And.intro (And.intro @xC.eq_1 @xC.eq_2) (And.intro @xC.eq_3 @l8.eq_1)))) (And.intro (And.intro (And.intro (And.intro @l8.eq_2 @false_or) (And.intro @DG.eq_1 @DG.eq_2)) (And.intro (And.intro @Je.eq_def @qP.eq_def) (And.intro @Ct.eq_def @eq_self.{1}))) (And.intro (And.intro (And.intro @ne_eq.{1} @implies_true.{1}) (And.intro @implies_true.{0} @forall_const.{1})) (And.intro (And.intro @forall_const.{0} @Qy) (And.intro @Uu (And.intro @Tj @Qn)))))) (And.intro (And.intro (And.intro (And.intro (And.intro @QT @Q2) (And.intro @PP @Tf)) (And.intro (And.intro @Rd @Qm) (And.intro @PM @Ux))) (And.intro (And.intro (And.intro @Uh @TQ) (And.intro @Sy @Qh)) (And.intro (And.intro @T2 @TL) (And.intro @RC @Q0)))) (And.intro (And.intro (And.intro (And.intro @SE @SU) (And.intro @RG @Sj)) (And.intro (And.intro @P8 @Qi) (And.intro @QL @Rh))) (And.intro (And.intro (And.intro @PO @Jg) (And.intro @Sq @QP)) (And.intro (And.intro @RQ @K5) (And.intro @R7 (And.intro @So @Jt))))))) (And.intro (And.intro (And.intro (And.intro (And.intro (And.intro @Su @Ri) (And.intro @Sa @HT)) (And.intro (And.intro @S0 @Q1) (And.intro @Iw @SZ))) (And.intro (And.intro (And.intro @Sg @LM) (And.intro @QM @Tl)) (And.intro (And.intro @LZ @SL) (And.intro @JE @Ry)))) (And.intro (And.intro (And.intro (And.intro @QF @PQ) (And.intro @P5 @Ro)) (And.intro (And.intro @Qt @L5) (And.intro @Jd @Td))) (And.intro (And.intro (And.intro @Sf @J1) (And.intro @RN @Qk)) (And.intro (And.intro @P7 @Tg) (And.intro @Ra (And.intro @QK @QG)))))) (And.intro (And.intro (And.intro (And.intro (And.intro @QA @RY) (And.intro @IB @Sb)) (And.intro (And.intro @Q3 @QU) (And.intro @Qc @Rx))) (And.intro (And.intro (And.intro @Ih @NX) (And.intro @Tm @Q9)) (And.intro (And.intro @Sr @LX) (And.intro @Jp @JF)))) (And.intro (And.intro (And.intro (And.intro @Ty @TS) (And.intro @Kk @Uv)) (And.intro (And.intro @LT @Ru) (And.intro @S5 @RK))) (And.intro (And.intro (And.intro @Ii @Ql) (And.intro @R6 @Sm)) (And.intro (And.intro @J0 @RZ) (And.intro @Tn (And.intro @P9 @Ji)))))))) (And.intro (And.intro (And.intro (And.intro (And.intro (And.intro (And.intro @K9 @RF) (And.intro @Rr @Ss)) (And.intro (And.intro @J4 @Tc) (And.intro @QC @SK))) (And.intro (And.intro (And.intro @L6 @RO) (And.intro @Sc @SP)) (And.intro (And.intro @Kn @QS) (And.intro @Sw @GT)))) (And.intro (And.intro (And.intro (And.intro @Rl @Q5) (And.intro @MP @F7)) (And.intro (And.intro @FU @Fc) (And.intro @RW @NV))) (And.intro (And.intro (And.intro @FA @Hi) (And.intro @Qr @Rc)) (And.intro (And.intro @Te @RL) (And.intro @Rb (And.intro @P0 @IC)))))) (And.intro (And.intro (And.intro (And.intro (And.intro @Ls @LV) (And.intro @QQ @SY)) (And.intro (And.intro @KJ @R8) (And.intro @RB @N7))) (And.intro (And.intro (And.intro @Qp @GA) (And.intro @F1 @G5)) (And.intro (And.intro @Nu @Ni) (And.intro @MF @GE)))) (And.intro (And.intro (And.intro (And.intro @EV @Si) (And.intro @Qf @Qq)) (And.intro (And.intro @KK @Mb) (And.intro @S9 @R4))) (And.intro (And.intro (And.intro @Rt @LL) (And.intro @JQ @EZ)) (And.intro (And.intro @GY @GL) (And.intro @QY (And.intro @S8 @Pd))))))) (And.intro (And.intro (And.intro (And.intro (And.intro (And.intro @Ng @O2) (And.intro @M7 @Lh)) (And.intro (And.intro @M8 @ML) (And.intro @Oa @Mv))) (And.intro (And.intro (And.intro @NT @MC) (And.intro @MK @RD)) (And.intro (And.intro @NJ @PG) (And.intro @RU @Qs)))) (And.intro (And.intro (And.intro (And.intro @PZ @FI) (And.intro @JO @Fj)) (And.intro (And.intro @La @Kl) (And.intro @KY @JM))) (And.intro (And.intro (And.intro @Pa @M5) (And.intro @EX @GH)) (And.intro (And.intro @Fk @SM) (And.intro @Sp (And.intro @N5 @Rp)))))) (And.intro (And.intro (And.intro (And.intro (And.intro @HA @N6) (And.intro @Oh @MH)) (And.intro (And.intro @SQ @Hz) (And.intro @KR @RX))) (And.intro (And.intro (And.intro @QB @Q8) (And.intro @Ov @NQ)) (And.intro (And.intro @NI @G4) (And.intro @Hu @Lo)))) (And.intro (And.intro (And.intro (And.intro @SJ @OV) (And.intro @Mj @Qj)) (And.intro (And.intro @MG @Qe) (And.intro @PJ @QW))) (And.intro (And.intro (And.intro @ET @F9) (And.intro @UK @MO)) (And.intro (And.intro @Ub @NE) (And.intro @MU (And.intro @N1 @Ud)))))))))))
theorem kf {a b:Prop} (x:a) (y:b):a /\ b:=⟨x,y⟩
theorem go {a b:Prop} (hb:b) (h:a=b:=by simp -implicitDefEqProofs (maxSteps:=5000000) only [uy,↓reduceIte,reduceCtorEq,Nat.reduceLT,Nat.reduceEqDiff,Nat.reduceAdd,Nat.reduceMul,Nat.reduceSub,Nat.reduceLeDiff,Nat.reduceBEq]<;>exact rfl):a:=Eq.mpr h hb
theorem ge {E a b:Prop} (e:E) (hb:b) (h:E -> a=b:=by intro e;simp -implicitDefEqProofs (maxSteps:=5000000) only [uy,↓reduceIte,reduceCtorEq,Nat.reduceLT,Nat.reduceEqDiff,Nat.reduceAdd,Nat.reduceMul,Nat.reduceSub,Nat.reduceLeDiff,Nat.reduceBEq,e]<;>exact rfl):a:=Eq.mpr (h e) hb
theorem gq {a b:Prop} (hb:b) (h:b -> a:=by first|with_reducible exact aA (by kernel_rfl)|exact Eq.mpr (by simp -implicitDefEqProofs (maxSteps:=5000000) only [uy,↓reduceIte,reduceCtorEq,Nat.reduceLT,Nat.reduceEqDiff,Nat.reduceAdd,Nat.reduceMul,Nat.reduceSub,Nat.reduceLeDiff,Nat.reduceBEq]<;>exact rfl)):a:=h hb
theorem gf {E a b:Prop} (e:E) (hb:b) (h:E -> b -> a:=by intro e;first|with_reducible exact aA (by kernel_rfl)|exact Eq.mpr (by simp -implicitDefEqProofs (maxSteps:=5000000) only [uy,↓reduceIte,reduceCtorEq,Nat.reduceLT,Nat.reduceEqDiff,Nat.reduceAdd,Nat.reduceMul,Nat.reduceSub,Nat.reduceLeDiff,Nat.reduceBEq,e]<;>exact rfl)):a:=h e hb
theorem cA {p a b:Prop} (x:a) (y:b) (h:a -> b -> p:=by intro x y;first|((with_reducible apply ax);exact x;exact y)|((with_reducible apply aL);exact x;exact y)|((with_reducible apply bJ);exact x;exact .inl (by simp [fc,fH,aR,aY]);exact y)):p:=h x y
theorem ro {p q:Prop} (h:p:=by simp [fc,fH,aR,aY]):p \/ q:=.inl h
theorem sp {p a b:Prop} (ha:a) (hb:b) (h:a -> b -> p:=by with_reducible first|exact kj|exact De|exact wc):p:=h ha hb
theorem wC {st:aj} {n nx:Nat} {env:List (Nat × AV)} {tab:af} (h:st.n=n /\ (lY st env /\ mo st tab) /\ dC nx env /\ cX nx tab:=by (first|((simp only [lY,mo,dC,cX,aD.lt,AV.lt,AV.ltL,iz,aj.get,bb,aj.put,↓reduceIte,reduceCtorEq,Nat.reduceLT,Nat.reduceEqDiff,Nat.reduceAdd,Nat.reduceLeDiff,eq_self,implies_true])<;>(repeat' apply And.intro)<;>first|(rw [oH (by omega)];done)|(simp;done)|omega)|fail)):dH st ⟨n,env,tab,nx⟩:=kn h
theorem wE {st:aj} {n nx:Nat} {env:List (Nat × AV)} {tab:af} {E:Prop} (e:E) (h:E -> st.n=n /\ (lY st env /\ mo st tab) /\ dC nx env /\ cX nx tab:=by intro e;(first|((simp only [lY,mo,dC,cX,aD.lt,AV.lt,AV.ltL,iz,aj.get,bb,aj.put,↓reduceIte,reduceCtorEq,Nat.reduceLT,Nat.reduceEqDiff,Nat.reduceAdd,Nat.reduceLeDiff,eq_self,implies_true,e])<;>(repeat' apply And.intro)<;>first|(rw [oH (by omega)];done)|(simp;done)|omega)|fail)):dH st ⟨n,env,tab,nx⟩:=kn (h e)
theorem wR {st:aj} {n nx:Nat} {env:List (Nat × AV)} {tab:af} (ids:List Nat) (h0:ids.Nodup:=by decide) (h:st.n=n /\ (jZ st ids env /\ jA st ids tab) /\ dC nx env /\ cX nx tab:=by (first|((simp only [jZ,jA,dC,cX,aD.lt,AV.lt,AV.ltL,AV.ren,AV.renL,aD.ren,Xw,List.getD_cons_succ,VN,Wq,iz,aj.get,bb,aj.put,↓reduceIte,reduceCtorEq,Nat.reduceLT,Nat.reduceEqDiff,Nat.reduceAdd,Nat.reduceLeDiff,eq_self,implies_true])<;>(repeat' apply And.intro)<;>first|(rw [oH (by omega)];done)|(simp;done)|omega)|fail)):dH st ⟨n,env,tab,nx⟩:=mU ids ⟨h0,h⟩
theorem wS {st:aj} {n nx:Nat} {env:List (Nat × AV)} {tab:af} {E:Prop} (ids:List Nat) (e:E) (h0:ids.Nodup:=by decide) (h:E -> st.n=n /\ (jZ st ids env /\ jA st ids tab) /\ dC nx env /\ cX nx tab:=by intro e;(first|((simp only [jZ,jA,dC,cX,aD.lt,AV.lt,AV.ltL,AV.ren,AV.renL,aD.ren,Xw,List.getD_cons_succ,VN,Wq,iz,aj.get,bb,aj.put,↓reduceIte,reduceCtorEq,Nat.reduceLT,Nat.reduceEqDiff,Nat.reduceAdd,Nat.reduceLeDiff,eq_self,implies_true,e])<;>(repeat' apply And.intro)<;>first|(rw [oH (by omega)];done)|(simp;done)|omega)|fail)):dH st ⟨n,env,tab,nx⟩:=mU ids ⟨h0,h e⟩
theorem rI {I:aj -> Prop} {μ:aj -> Nat} {n:Nat} {st st':aj} (hw:dH st st') (hI:I st') (hm:μ st'<n:=by simp only [ap,iz,aj.get,bb,aj.put,↓reduceIte,reduceCtorEq,Nat.reduceLT,Nat.reduceEqDiff,Nat.reduceAdd,Nat.reduceLeDiff,eq_self,implies_true];omega):tj I μ n st:=cZ hw hI hm
end
section
theorem fb {P : Program} {f : FuncId} {fn : Func} {c : Code} (hf : P.funcs[f]? = some fn) (hb : fn.body = some c) (hname : (fn.name == "runtime.NumGoroutine") = false) : fL P f := fun args w => by
 have : ¬ fn.name = "runtime.NumGoroutine" := by simpa using hname
 simp [callFunc,Sem.run_bind,hf,this,hb]
theorem Gn {w:World} {S:Nat -> Prop} {v u:Value} (h:RT w S v (.c u)):v=u:=by cases h;rfl
theorem Ft {tab:af} {a:AV} (h:aY a):gB tab a=a:=by
 cases a<;>first|rfl|exact h.elim
theorem sy {tab:af}:∀ {l:List AV},aR l -> l.map (gB tab)=l
 | [],_=>rfl
 | a :: l,h=>by rw [V1,Ft h.1,sy h.2]
theorem qJ {tab:af}:∀ {l:List AV},aR l -> l.map (ij tab)=l
 | [],_=>rfl
 | a :: l,h=>by
  have h1:ij tab a=a:=by
   have:=h.1;cases a<;>first|rfl|exact this.elim
  rw [V1,h1,qJ h.2]
theorem sS {nx:Nat}:∀ {l:List AV},aR l -> AV.ltL nx l
 | [],_=>trivial
 | a :: l,h=>⟨by
   have:=h.1;cases a<;>first|trivial|exact this.elim,sS h.2⟩
theorem DQ {u:Option (Nat × List Nat)} {P:Program} {st:aj} {g:FuncId} {args caps:List AV} {dst:Option Nat} {K:aj -> Prop} {v:Value} (ht:aR caps) (h:aw P g (args.map (gB st.tab) ++ caps) (val v)) (hk:K (st.put dst (.c v))):gD u P st g (args ++ caps) (vW dst K):=
 ax (by rw [VI,sy ht];exact h) hk
theorem bJ {u:Option (Nat × List Nat)} {P:Program} {st:aj} {g:FuncId} {args:List AV} {K:AV -> aj -> Prop} {r:AV} (h:aw P g (args.map (gB st.tab)) ⟨r,[],0⟩) (ho:fc args \/ r.plain) (hk:K (r.shift st.next) st):gD u P st g args K:=
 sG h (ho.imp id fun h=>⟨h,trivial⟩) hk
theorem dc {α β:Type} (f:α -> β) (l:List α) {k:Nat} (h:k<l.length):(l.take (k+1)).map f=(l.take k).map f ++ [f l[k]]:=by
 rw [Xp,p0 h,VI];rfl
theorem cd {u:Option (Nat × List Nat)} {P:Program} {st:aj} {g:FuncId} {args:List AV} {K:AV -> aj -> Prop} {e:TypeId} {sz:Nat} {rows:List (List AV)} (h:aw P g (args.map (gB st.tab)) (g8 e sz rows)) (ho:fc args \/ ∀ row ∈ rows,∀ av ∈ row,av.plain) (hk:K (.osl st.next) ⟨st.n,st.env,(st.next,some (.row e sz rows)) :: st.tab,st.next+1⟩):gD u P st g args K:=
 sG h (ho.imp id fun h=>⟨trivial,h,trivial⟩) (by
  have e1:(g8 e sz rows).r.shift st.next=.osl st.next:=by simp [g8,AV.shift]
  have e2:(g8 e sz rows).tab.shift st.next=[(st.next,some (.row e sz rows))]:=by simp [g8,af.shift,aD.shift]
  rw [e1,e2];exact hk)
theorem eC {l:List Int}:∀ row ∈ l.map (fun n=>[eI n]),∀ av ∈ row,av.plain:=fun row hr av ha=>by
 obtain ⟨n,_,rfl⟩:=Vx.1 hr;simp at ha;subst ha;trivial
theorem Fb {α β:Type} (f:β -> α -> β) (b:β) (l:List α) {k:Nat} (h:k<l.length):(l.take (k+1)).foldl f b=f ((l.take k).foldl f b) l[k]:=by
 rw [Xp,p0 h,WK];rfl
inductive qX:AV -> AV -> Prop
 | refl (a:AV):qX a a
 | nil (sz:Nat):qX (.c (.slice none 0 0)) (.sl sz [])
def qD:List AV -> List AV -> Prop
 | [],[]=>True
 | a :: l,b :: l'=>qX a b /\ qD l l'
 | _,_=>False
def py:List (List AV) -> List (List AV) -> Prop
 | [],[]=>True
 | a :: l,b :: l'=>qD a b /\ py l l'
 | _,_=>False
inductive rc:AV -> AV -> Prop
 | refl (a:AV):rc a a
 | nil (sz:Nat):rc (.c (.slice none 0 0)) (.sl sz [])
 | rows {sz:Nat} {r r':List (List AV)} (h:py r r'):rc (.sl sz r) (.sl sz r')
def Bp:List AV -> List AV -> Prop
 | [],[]=>True
 | a :: l,b :: l'=>rc a b /\ Bp l l'
 | _,_=>False
inductive sA:AV -> AV -> Prop
 | one {a b:AV} (h:rc a b):sA a b
 | agg {l l':List AV} (h:Bp l l'):sA (.agg l) (.agg l')
def qm:List AV -> List AV -> Prop
 | [],[]=>True
 | a :: l,b :: l'=>sA a b /\ qm l l'
 | _,_=>False
theorem qX.rt {w:World} {S:Nat -> Prop} {v:Value} {a b:AV} (h:qX a b) (hr:RT w S v a):RT w S v b:=by
 cases h with
 | refl=>exact hr
 | nil sz=>
  rw [Gn hr];exact .sl none 0 0 sz [] 0 0 (fun _ _=>undef) rfl (Vh _) (by omega) (fun h=>by omega) (by simp) (fun h=>by omega) (by simp) (by simp)
theorem qD.spec:∀ {l l':List AV},qD l l' -> l.length=l'.length /\ ∀ (j:Nat) (b:AV),l'[j]? = some b -> ∃ a,l[j]? = some a /\ qX a b
 | [],[],_=>⟨rfl,fun j b h=>by simp at h⟩
 | a :: l,b :: l',h=>by
  obtain ⟨h1,h2⟩:=qD.spec h.2;refine ⟨by simp [h1],fun j b' h3=>?_⟩
  cases j with
  | zero=>
   simp at h3;subst h3;exact ⟨a,rfl,h.1⟩
  | succ j=>exact h2 j b' (by simpa using h3)
 | [],_ :: _,h=>h.elim
 | _ :: _,[],h=>h.elim
theorem py.spec:∀ {l l':List (List AV)},py l l' -> l.length=l'.length /\ ∀ (j:Nat) (b:List AV),l'[j]? = some b -> ∃ a,l[j]? = some a /\ qD a b
 | [],[],_=>⟨rfl,fun j b h=>by simp at h⟩
 | a :: l,b :: l',h=>by
  obtain ⟨h1,h2⟩:=py.spec h.2;refine ⟨by simp [h1],fun j b' h3=>?_⟩
  cases j with
  | zero=>
   simp at h3;subst h3;exact ⟨a,rfl,h.1⟩
  | succ j=>exact h2 j b' (by simpa using h3)
 | [],_ :: _,h=>h.elim
 | _ :: _,[],h=>h.elim
theorem rc.rt {w:World} {S:Nat -> Prop} {v:Value} {a b:AV} (h:rc a b) (hr:RT w S v a):RT w S v b:=by
 cases h with
 | refl=>exact hr
 | nil sz=>exact (qX.nil sz).rt hr
 | rows h=>
  rename_i sz r r';obtain ⟨hl,hx⟩:=h.spec
  cases hr with
  | sl A n cap sz rows b o U hn hc hm hA hs hcell hone hr=>
   have key:∀ i j row' av',r'[i]? = some row' -> row'[j]? = some av' -> ∃ row av,r[i]? = some row /\ row[j]? = some av /\ qX av av':=fun i j row' av' h1 h2=>by
    obtain ⟨row,h3,h4⟩:=hx i row' h1;obtain ⟨av,h5,h6⟩:=h4.spec.2 j av' h2;exact ⟨row,av,h3,h5,h6⟩
   refine .sl A n cap sz r' b o U (hn.trans hl) hc hm hA (fun row' hrow=>?_) (fun h0 i j row' av' h1 h2=>?_) (fun i j row' av' h1 h2=>?_) (fun i j row' av' h1 h2=>?_)
   .obtain ⟨i,hi⟩:=V8 hrow;obtain ⟨row,h3,h4⟩:=hx i row' hi;rw [<- h4.spec.1];exact hs row (Os h3)
   .obtain ⟨row,av,h3,h4,_⟩:=key i j row' av' h1 h2;exact hcell h0 i j row av h3 h4
   .obtain ⟨row,av,h3,h4,_⟩:=key i j row' av' h1 h2;exact hone i j row av h3 h4
   .obtain ⟨row,av,h3,h4,h5⟩:=key i j row' av' h1 h2;exact h5.rt (hr i j row av h3 h4)
theorem Bp.spec:∀ {l l':List AV},Bp l l' -> l.length=l'.length /\ ∀ (j:Nat) (a b:AV),l[j]? = some a -> l'[j]? = some b -> rc a b
 | [],[],_=>⟨rfl,fun j a b h=>by simp at h⟩
 | a :: l,b :: l',h=>by
  obtain ⟨h1,h2⟩:=Bp.spec h.2;refine ⟨by simp [h1],fun j a' b' h3 h4=>?_⟩
  cases j with
  | zero=>
   simp at h3 h4;subst h3 h4;exact h.1
  | succ j=>exact h2 j a' b' (by simpa using h3) (by simpa using h4)
 | [],_ :: _,h=>h.elim
 | _ :: _,[],h=>h.elim
theorem sA.rt {w:World} {S:Nat -> Prop} {v:Value} {a b:AV} (h:sA a b) (hr:RT w S v a):RT w S v b:=by
 cases h with
 | one h=>exact h.rt hr
 | agg h=>
  obtain ⟨hl,hx⟩:=h.spec
  cases hr with
  | agg xs cs hn hc=>
   refine .agg xs _ (hn.trans hl) fun j x av h1 h2=>?_;rename_i l l';have hj:j<l'.length:=(Vf.1 h2).1;obtain ⟨a,ha⟩:∃ a,l[j]? = some a:=⟨_,p0 (by omega)⟩;exact (hx j a av ha h2).rt (hc j x a h1 ha)
theorem qm.spec:∀ {l l':List AV},qm l l' -> l.length=l'.length /\ ∀ (j:Nat) (a b:AV),l[j]? = some a -> l'[j]? = some b -> sA a b
 | [],[],_=>⟨rfl,fun j a b h=>by simp at h⟩
 | a :: l,b :: l',h=>by
  obtain ⟨h1,h2⟩:=qm.spec h.2;refine ⟨by simp [h1],fun j a' b' h3 h4=>?_⟩
  cases j with
  | zero=>
   simp at h3 h4;subst h3 h4;exact h.1
  | succ j=>exact h2 j a' b' (by simpa using h3) (by simpa using h4)
 | [],_ :: _,h=>h.elim
 | _ :: _,[],h=>h.elim
theorem aw.fits {P:Program} {f:FuncId} {args args':List AV} {R:cS} (h:aw P f args' R) (hf:qm args args'):aw P f args R:=
 ⟨h.1,fun S w vs h1 h2 h3=>h.2 S w vs h1 (h2.trans hf.spec.1) fun j v av h4 h5=>by
  have hj:j<args'.length:=(Vf.1 h5).1;obtain ⟨a,ha⟩:∃ a,args[j]? = some a:=⟨_,p0 (by rw [hf.spec.1];exact hj)⟩;exact (hf.spec.2 j a av ha h5).rt (h3 j v a h4 ha)⟩
theorem mp {u:Option (Nat × List Nat)} {P:Program} {st:aj} {g:FuncId} {args:List AV} {dst:Option Nat} {K:aj -> Prop} {Q:Bool -> Prop} (h:dQ P g (args.map (gB st.tab)) fun R=>∃ b,R=val (.bool b) /\ Q b) (hk:∀ b,Q b -> K (st.put dst (.c (.bool b)))):gD u P st g args (vW dst K):=
 tQ h fun R ⟨b,hR,hq⟩=>by subst hR;exact ⟨.inr ⟨trivial,trivial⟩,hk b hq⟩
section
variable {P:Program} {w:World} {d:Nat} {xs ys:Array Value} {f:Field} {fs:List Field}
theorem KS {x y : Value} {b : Bool} {u : TypeDesc} (hn : f.name ≠ "_") (hu : P.underlying f.type = some u) (hs : ∀ fs, u ≠ .struct fs) (ha : ∀ n e, u ≠ .array n e) (hx : xs[f.offset]? = some x) (hy : ys[f.offset]? = some y) (he : (Op.equalIn d f.type x y).run P w = .ok b w) : (Op.eqFields d xs ys (f :: fs)).run P w = if b = true then (Op.eqFields d xs ys fs).run P w else .ok false w := by
 have hp:∀ (zs:Array Value) (z:Value),zs[f.offset]? = some z -> (part f.type zs f.offset).run P w=.ok z w:=fun zs z hz=>by
  simp only [part,Sem.run_bind,isAgg,run_underlying hu,Result.andThen_ok]
  cases u with
  | struct fs=>exact absurd rfl (hs fs)
  | array n e=>exact absurd rfl (ha n e)
  | _=>simp [hz]
 simp only [Op.eqFields,hn,ne_eq,not_false_eq_true,if_true,Sem.run_bind,hp xs x hx,hp ys y hy,Result.andThen_ok,he];cases b<;>simp
def sw:Value -> Value -> Option Bool
 | .bool a,.bool b=>some (a == b)
 | .int k a,.int k' b=>if k=k' then some (a == b) else none
 | .string a,.string b=>some (a == b)
 | _,_=>none
def wY (P:Program) (t:TypeId):Value -> Bool
 | .bool _=>match P.underlying t with | some .bool=>true | _=>false
 | .int k _=>match P.underlying t with | some (.int _)=>true | _=>false
 | .string _=>match P.underlying t with | some .string=>true | _=>false
 | _=>false
theorem Pg {t:TypeId} {x y:Value} {b:Bool} (h:sw x y=some b) (hx:wY P t x=true):(Op.equalIn (d+1) t x y).run P w=.ok b w /\ ∃ u,P.underlying t=some u /\ (∀ fs,u ≠ .struct fs) /\ ∀ n e,u ≠ .array n e:=by
 cases x<;>cases y<;>simp [sw] at h;all_goals (unfold wY at hx;simp only at hx;split at hx)
 all_goals try cases hx
 .rename_i hu;exact ⟨by simp [Op.equalIn,run_underlying hu,h],_,hu,by simp,by simp⟩
 .rename_i hu;obtain ⟨rfl,rfl⟩:=h;exact ⟨by simp [Op.equalIn,run_underlying hu],_,hu,by simp,by simp⟩
 .rename_i hu;exact ⟨by simp [Op.equalIn,run_underlying hu,h],_,hu,by simp,by simp⟩
def mr:List (Value × Value) -> Option Bool
 | []=>some true
 | (x,y) :: l=>match sw x y,mr l with
  | some b,some c=>some (b && c)
  | _,_=>none
theorem u2 : ∀ (fs : List Field) (l : List (Value × Value)) (b : Bool), fs.length = l.length → (∀ (k : Nat) (f : Field) (p : Value × Value), fs[k]? = some f → l[k]? = some p → f.name ≠ "_" ∧ wY P f.type p.1 = true ∧ xs[f.offset]? = some p.1 ∧ ys[f.offset]? = some p.2) → mr l = some b → (Op.eqFields (d + 1) xs ys fs).run P w = .ok b w
 | [],[],b,_,_,h=>by
  cases h;simp [Op.eqFields]
 | f :: fs,(x,y) :: l,b,hl,hf,h=>by
  unfold mr at h;split at h
  .rename_i b1 b2 h1 h2;cases h;obtain ⟨h3,h4,h5,h6⟩:=hf 0 f (x,y) rfl rfl;obtain ⟨h7,u,hu,h8,h9⟩:=Pg (P:=P) (w:=w) (d:=d) h1 h4;rw [KS h3 hu h8 h9 h5 h6 h7,u2 fs l b2 (by simpa using hl) (fun k f p hk hp=>hf (k+1) f p (by simpa using hk) (by simpa using hp)) h2];cases b1<;>simp
  .cases h
theorem vm {t:TypeId} {op:BinOp} (l:List (Value × Value)) {b:Bool} (ht:P.underlying t=some (.struct (P.fieldsOf t))) (hs:P.stoodInHeld t=false) (hg:P.eqGuardType P.depth t=false) (hl:(P.fieldsOf t).toList.length=l.length)
  (hf : ∀ (k : Nat) (f : Field) (p : Value × Value), (P.fieldsOf t).toList[k]? = some f → l[k]? = some p → f.name ≠ "_" ∧ wY P f.type p.1 = true ∧ xs[f.offset]? = some p.1 ∧ ys[f.offset]? = some p.2) (h : mr l = some b) (hop : op = .eql ∨ op = .neq) : tC P op t (.agg xs) (.agg ys) (.bool (if op matches .eql then b else !b)) := fun w x y => by
 have he:∀ w,(Op.equalIn 10000 t (.agg xs) (.agg ys)).run P w=.ok b w:=fun w=>by
  rw [run_equalIn_agg w 9999 t xs ys ht hs];exact u2 (P:=P) (d:=9998) _ l b hl hf h
 rcases hop with rfl|rfl
 .simp only [Sem.run_bind,run_eqGuard_agg w _ t x y xs ys hg,Result.andThen_ok,run_eql_struct,he];rfl
 .simp only [Sem.run_bind,run_eqGuard_agg w _ t x y xs ys hg,Result.andThen_ok,run_neq_struct,he];rfl
end
end
section
theorem Bt (x:Int):bits .and .i64 x 1=x % 2:=by
 show IntKind.i64.wrap ((BitVec.ofInt 64 x &&& BitVec.ofInt 64 1).toNat:Int)=_
 have h:(BitVec.ofInt 64 x &&& BitVec.ofInt 64 1).toNat=(x % 2).toNat:=by
  rw [BitVec.toNat_and,show (BitVec.ofInt 64 1).toNat=1 from rfl,Nat.and_one_is_mod,BitVec.toNat_ofInt];omega
 rw [h]
 have:IntKind.i64.wrap (((x % 2).toNat:Nat):Int)=((x % 2).toNat:Int):=by
  simp [IntKind.wrap,IntKind.bits,IntKind.signed];omega
 rw [this];omega
structure ah where
 op:Int
 la:Int
 ln:Int
 ra:Int
 rn:Int
 n:Int
 u:Int
structure St where
 vals:List Int
 opn:Int
 don:Int
 did:List Int
 cnt:List Int
def bq (s i:Int):Bool:=decide (0<=i) && decide (i<31) && (s / 2 ^ i.toNat % 2 == 1)
def Rf (op c:Int):Bool:=
 if op=3 then decide (c<0) else if op=4 then decide (c<=0) else if op=5 then decide (0<c) else if op=6 then decide (0<=c) else if op=7 then c == 0 else if op=8 then c != 0 else false
def zQ (a b:Int):Int:=if a<b then -1 else if b<a then 1 else 0
def tf (vals:List Int) (a n:Int):Option Int:=if a = -1 then some n else if a<0 then none else vals[a.toNat]?
def aC (op:Int):Int:=
 if 1<=op /\ op<=14 then 0 else if op=15 \/ (19<=op /\ op<=24) then 1 else if (16<=op /\ op<=18) \/ op=25 \/ op=26 then 2 else -1
def cD (d:Nat) (op:Int):Option Nat:=
 if aC op=0 then some (d+1) else if aC op=1 /\ 1<=d then some d else if aC op=2 /\ 2<=d then some (d - 1) else none
def bx:List Int -> Nat -> Option Nat
 | [],d=>some d
 | op :: l,d=>match cD d op with
  | some d'=>bx l d'
  | none=>none
def bf (l:List Int):Int:=if l.length=0 then 12 else if 64<l.length then 3 else if bx l 0=some 1 then 0 else 17
def du (cm:ah -> Option Int) (opn don:Int) (x:ah) (r:List Bool):Option (List Bool):=
 if x.op=1 \/ x.op=2 then some ((x.op == 1) :: r)
 else if 3<=x.op /\ x.op<=8 then
  match cm x with
  | some c=>some (Rf x.op c :: r)
  | none=>none
 else if x.op=9 then some (bq opn x.n :: r)
 else if x.op=10 then some (bq don x.n :: r)
 else if x.op=15 then
  match r with
  | a :: r=>some ((!a) :: r)
  | []=>none
 else if 16<=x.op /\ x.op<=18 then
  match r with
  | b :: a :: r=>some ((if x.op=16 then a && b else if x.op=17 then a || b else !a || b) :: r)
  | _=>none
 else none
def de (cm:ah -> Option Int) (opn don:Int):List ah -> List Bool -> Option (List Bool)
 | [],r=>some r
 | x :: l,r=>match du cm opn don x r with
  | some r'=>de cm opn don l r'
  | none=>none
def fN (cm:ah -> Option Int) (opn don:Int) (l:List ah):Option Bool:=
 if bf (l.map ah.op) ≠ 0 then none else
  match de cm opn don l [] with
  | some (b :: _)=>some b
  | _=>none
def yB (vals:List Int) (x:ah):Option Int:=match tf vals x.la x.ln,tf vals x.ra x.rn with
 | some a,some b=>some (zQ a b)
 | _,_=>none
def jg (l:List ah) (s:St):Option Bool:=fN (yB s.vals) s.opn s.don l
def ic (o:Option Bool):Bool:=o.getD false
def pX (o:Option Bool):Int:=if o.isSome then 0 else 17
end
section
open Go.RowKit Go.ChangeShapes Go.WideShapes Go.Deep
structure gw (α:Type) where
 size:Nat
 at_:World -> (Nat -> Prop) -> List Value -> α -> Prop
 len:∀ {w:World} {S:Nat -> Prop} {cs:List Value} {a:α},at_ w S cs a -> cs.length=size
 keep:∀ {w w':World} {S:Nat -> Prop} {cs:List Value} {a:α},at_ w S cs a -> (∀ p:Addr,S p.block -> w'.cell? p=w.cell? p) -> at_ w' S cs a
 mono:∀ {w:World} {S S':Nat -> Prop} {cs:List Value} {a:α},at_ w S cs a -> (∀ b,S b -> S' b) -> at_ w S' cs a
def gw.one {α:Type} (r:gw α) (w:World) (S:Nat -> Prop) (v:Value) (a:α):Prop:=r.at_ w S [v] a
def fl (k:IntKind):gw Int where
 size:=1
 at_:=fun _ _ cs n=>cs=[.int k n] /\ (Lit.int k n).wf=true
 len:=fun h=>by rw [h.1];rfl
 keep:=fun h _=>h
 mono:=fun h _=>h
def D9:gw Bool where
 size:=1
 at_:=fun _ _ cs b=>cs=[.bool b]
 len:=fun h=>by rw [h];rfl
 keep:=fun h _=>h
 mono:=fun h _=>h
def rD:gw ByteArray where
 size:=1
 at_:=fun _ _ cs s=>cs=[.string s] /\ s.size<=9223372036854775807
 len:=fun h=>by rw [h.1];rfl
 keep:=fun h _=>h
 mono:=fun h _=>h
def sP {α:Type} (r:gw α) (w:World) (S:Nat -> Prop) (b o:Nat) (l:List α):Prop:=
 ∀ i (h:i<l.length),∃ cs,(∀ j u,cs[j]? = some u -> w.cell? ⟨b,o+i * r.size+j,none⟩=some u) /\ r.at_ w S cs l[i]
theorem C4 {α:Type} {r:gw α} {w w':World} {S:Nat -> Prop} {b o:Nat} {l:List α} (h:sP r w S b o l) (hb:S b) (hk:∀ p:Addr,S p.block -> w'.cell? p=w.cell? p):sP r w' S b o l:=by
 intro i hi;obtain ⟨cs,h1,h2⟩:=h i hi;exact ⟨cs,fun j u hu=>(hk _ hb).trans (h1 j u hu),r.keep h2 hk⟩
theorem BS {α:Type} {r:gw α} {w:World} {S S':Nat -> Prop} {b o:Nat} {l:List α} (h:sP r w S b o l) (hB:∀ b,S b -> S' b):sP r w S' b o l:=by
 intro i hi;obtain ⟨cs,h1,h2⟩:=h i hi;exact ⟨cs,h1,r.mono h2 hB⟩
def aJ {α:Type} (r:gw α):gw (List α) where
 size:=1
 at_:=fun w S cs l=>∃ A c,cs=[.slice A l.length c] /\ l.length<=c /\ c<=9223372036854775807 /\ (0<l.length -> ∃ b o,A=some ⟨b,o,none⟩ /\ S b /\ sP r w S b o l)
 len:=fun ⟨A,c,h,_⟩=>by rw [h];rfl
 keep:=fun ⟨A,c,h1,h2,h3,h4⟩ hk=>⟨A,c,h1,h2,h3,fun hl=>by
  obtain ⟨b,o,e,hb,hr⟩:=h4 hl;exact ⟨b,o,e,hb,C4 hr hb hk⟩⟩
 mono:=fun ⟨A,c,h1,h2,h3,h4⟩ hB=>⟨A,c,h1,h2,h3,fun hl=>by
  obtain ⟨b,o,e,hb,hr⟩:=h4 hl;exact ⟨b,o,e,hB b hb,BS hr hB⟩⟩
def cy {α β:Type} (r:gw α) (s:gw β):gw (α × β) where
 size:=r.size+s.size
 at_:=fun w S cs x=>∃ c1 c2,cs=c1 ++ c2 /\ r.at_ w S c1 x.1 /\ s.at_ w S c2 x.2
 len:=fun ⟨c1,c2,h,h1,h2⟩=>by rw [h,Vk,r.len h1,s.len h2]
 keep:=fun ⟨c1,c2,h,h1,h2⟩ hk=>⟨c1,c2,h,r.keep h1 hk,s.keep h2 hk⟩
 mono:=fun ⟨c1,c2,h,h1,h2⟩ hB=>⟨c1,c2,h,r.mono h1 hB,s.mono h2 hB⟩
def tU:gw Unit where
 size:=0
 at_:=fun _ _ cs _=>cs=[]
 len:=fun h=>by rw [h];rfl
 keep:=fun h _=>h
 mono:=fun h _=>h
theorem gw.below {α:Type} {r:gw α} {w w':World} {S:Nat -> Prop} {B':Nat} {cs:List Value} {a:α} (h:r.at_ w S cs a) (hb:Below B' w w') (hB:∀ b,S b -> b<B'):r.at_ w' S cs a:=
 r.keep h fun p hp=>hb.cell (hB _ hp)
theorem gw.one_below {α:Type} {r:gw α} {w w':World} {S:Nat -> Prop} {B':Nat} {v:Value} {a:α} (h:r.one w S v a) (hb:Below B' w w') (hB:∀ b,S b -> b<B'):r.one w' S v a:=gw.below (r:=r) h hb hB
theorem dY {n:Int} (h:(Lit.int .i64 n).wf=true):-9223372036854775808<=n /\ n<=9223372036854775807:=by
 simpa [Lit.wf,IntKind.min,IntKind.max,IntKind.signed,IntKind.bits] using h
theorem vk {n:Int} (h1:-9223372036854775808<=n) (h2:n<=9223372036854775807):(Lit.int .i64 n).wf=true:=by
 simp [Lit.wf,IntKind.min,IntKind.max,IntKind.signed,IntKind.bits];omega
section
variable {α:Type} {r:gw α} {w w':World} {S:Nat -> Prop} {v:Value} {l:List α}
theorem dk (h:(aJ r).one w S v l):∃ A c,v=.slice A l.length c /\ l.length<=c /\ c<=9223372036854775807:=by
 obtain ⟨A,c,h1,h2,h3,_⟩:=h;exact ⟨A,c,by simpa using h1,h2,h3⟩
theorem dJ {A:Option Addr} {n c:Nat} (h:(aJ r).one w S (.slice A n c) l) (hn:0<l.length):∃ b o,A=some ⟨b,o,none⟩ /\ S b /\ sP r w S b o l:=by
 obtain ⟨A',c',h1,_,_,h4⟩:=h;simp at h1;obtain ⟨rfl,_,_⟩:=h1;exact h4 hn
theorem vY (hs:r.size=1) {b o c:Nat} {n:Nat} (h:(aJ r).one w S (.slice (some ⟨b,o,none⟩) n c) l) {k:Nat} (hk:k<l.length):∃ u,w.cell? ⟨b,o+k,none⟩=some u /\ r.at_ w S [u] l[k]:=by
 obtain ⟨b',o',e,_,hr⟩:=dJ h (by omega);simp at e;obtain ⟨rfl,rfl⟩:=e;obtain ⟨cs,h1,h2⟩:=hr k hk;have hl:=r.len h2;rw [hs] at hl h1
 match cs,hl with
 | [u],_=>exact ⟨u,by simpa using h1 0 u rfl,h2⟩
theorem GJ (w:World) (S:Nat -> Prop) (r:gw α):(aJ r).one w S (.slice none 0 0) []:=⟨none,0,rfl,Vh _,by omega,fun h=>absurd h (by simp)⟩
theorem wA {base:Nat} {e:TypeId} {size n:Nat} {xs:List Value} (h:w.ownsRow base e size v n xs) (hs:r.size=size) (hn:n=l.length) (hx:∀ i (hi:i<l.length),r.at_ w (fun b=>base<=b /\ b<w.heap.size) ((xs.drop (i * size)).take size) l[i]) :
  (aJ r).one w (fun b=>base<=b /\ b<w.heap.size) v l:=by
 subst hn;rcases h.2 with ⟨rfl,h0⟩|⟨g,cap,cur,rfl,hb,hg,hc,hm,hcs,ht⟩
 .refine ⟨none,0,by rw [h0],by omega,by omega,fun hl=>by omega⟩
 .refine ⟨some ⟨g,0,none⟩,cap,rfl,hc,by simpa [maxLen] using hm,fun hl=>⟨g,0,rfl,⟨hb,(VK.1 hg).1⟩,fun i hi=>⟨_,fun j u hu=>?_,hx i hi⟩⟩⟩
  have hj:j<size:=by
   have:=(Vf.1 hu).1;simp at this;omega
  rw [V2,Vo hj,VV] at hu;have:=h.cells (g:=g) rfl _ u hu;rw [iA] at this;rw [hs,WT];exact this
theorem B4 {base:Nat} {e:TypeId} {n:Nat} (f:α -> Value) (h:w.ownsRow base e 1 v n (l.map f)) (hs:r.size=1) (hx:∀ a ∈ l,r.at_ w (fun b=>base<=b /\ b<w.heap.size) [f a] a):(aJ r).one w (fun b=>base<=b /\ b<w.heap.size) v l:=by
 have hn:n=l.length:=by have:=h.1;simp at this;omega
 refine wA h hs hn fun i hi=>?_
 have e:(((l.map f).drop (i * 1)).take 1)=[f l[i]]:=by
  rw [Nat.mul_one,WG (by simpa using hi)];simp
 rw [e];exact hx _ (Vg hi)
theorem fo (h:(aJ r).one w S v l) {B':Nat} (hb:Below B' w w') (hB:∀ b,S b -> b<B'):(aJ r).one w' S v l:=gw.one_below h hb hB
theorem gQ (h:(aJ r).one w S v l) {S':Nat -> Prop} (hB:∀ b,S b -> S' b):(aJ r).one w S' v l:=gw.mono (aJ r) h hB
theorem nz (h:(aJ r).one w S v l) (hk:∀ p:Addr,S p.block -> w'.cell? p=w.cell? p):(aJ r).one w' S v l:=gw.keep (aJ r) h hk
end
theorem OK {w:World} {S:Nat -> Prop} {b o c n:Nat} {l:List Int} (h:(aJ (fl .i64)).one w S (.slice (some ⟨b,o,none⟩) n c) l) {k:Nat} (hk:k<l.length) :
  w.cell? ⟨b,o+k,none⟩=some (.int .i64 l[k]) /\ -9223372036854775808<=l[k] /\ l[k]<=9223372036854775807:=by
 obtain ⟨u,h1,h2⟩:=vY (r:=fl .i64) rfl h hk;obtain ⟨h2,h3⟩:=h2;simp at h2;subst h2;exact ⟨h1,dY h3⟩
theorem Nb {α:Type} {r:gw α} {w:World} {S:Nat -> Prop} {b o c n:Nat} {l:List (List α)} (h:(aJ (aJ r)).one w S (.slice (some ⟨b,o,none⟩) n c) l) {k:Nat} (hk:k<l.length) :
  ∃ A c',w.cell? ⟨b,o+k,none⟩=some (.slice A l[k].length c') /\ l[k].length<=c' /\ c'<=9223372036854775807 /\ (aJ r).one w S (.slice A l[k].length c') l[k]:=by
 obtain ⟨u,h1,h2⟩:=vY (r:=aJ r) rfl h hk;obtain ⟨A,c',rfl,h3,h4⟩:=dk h2;exact ⟨A,c',h1,h3,h4,h2⟩
theorem zP {α:Type} {p:Nat -> α -> Prop}:∀ {n:Nat},(∀ i,i<n -> ∃ y,p i y) -> ∃ l:List α,l.length=n /\ ∀ i (h:i<l.length),p i l[i]:=by
 intro n
 induction n with
 | zero=>intro _;exact ⟨[],rfl,fun i h=>absurd h (by simp)⟩
 | succ n ih=>
  intro h;obtain ⟨l,h1,h2⟩:=ih fun i hi=>h i (by omega);obtain ⟨y,hy⟩:=h n (by omega);refine ⟨l ++ [y],by simp [h1],fun i hi=>?_⟩;by_cases hin:i<l.length
  .rw [W7 hin];exact h2 i hin
  .have:i=l.length:=by simp at hi;omega
   subst this;rw [Xk (by omega)];simpa [h1] using hy
def dP {α:Type} (P:Program) (t:TypeId) (r:gw α):Prop:=∀ (H:Type) (enc:TypeId × Value -> H) (w:World) (fuel:Nat) (cs:List Value) (x:DataW H × List MemPlace),
 DataW.trod enc P w 0 (fun _=>true) true fuel t cs=some x -> ∃ a,r.at_ w (fun b=>b<w.heap.size) cs a
section
variable {P:Program}
theorem vC {t:TypeId} {k:IntKind} (h:P.underlying t=some (.int k)):dP P t (fl k):=by
 intro H enc w fuel cs x hx;obtain ⟨n,rfl,_,hw⟩:=DataW.trod_int h hx;exact ⟨n,rfl,hw⟩
theorem B3 {t:TypeId} (h:P.underlying t=some .bool):dP P t D9:=by
 intro H enc w fuel cs x hx;obtain ⟨b,rfl,_⟩:=DataW.trod_bool h hx;exact ⟨b,rfl⟩
theorem cz {α:Type} {t e:TypeId} {r:gw α} (ht:P.underlying t=some (.slice e)) (hs:P.cellsOf e=r.size) (hp:0<r.size) (ho:dP P e r):dP P t (aJ r):=by
 intro H enc w fuel cs x hx;rcases Go.Deep.open_slice ht hx with ⟨rfl,_⟩|⟨a,len,cap,m,n,D,Pl,rfl,_,hl,hm,hmm,_,hi⟩
 .exact ⟨[],GJ _ _ _⟩
 .simp only [if_true] at hmm;subst hmm
  obtain ⟨l,hll,hl2⟩:=zP (n:=len) (p:=fun i y=>∃ cs',w.cells? 0 (a.add (i * P.cellsOf e)) (P.cellsOf e)=some cs' /\ r.at_ w (fun b=>b<w.heap.size) cs' y) (fun i hil=>by
   obtain ⟨cs',h1,h2⟩:=hi i (by omega);obtain ⟨y,hy⟩:=ho H enc w n cs' _ h2;exact ⟨y,cs',h1,hy⟩)
  subst hll;refine ⟨l,some a,_,rfl,hl,by simpa [maxLen] using hm,fun h0=>?_⟩;obtain ⟨cs0,h1,h2⟩:=hl2 0 h0;obtain ⟨_,hlen,hc⟩:=World.cells?_some h1;have hc0:=hc 0 (by omega);have hlt:0<cs0.length:=by rw [hlen];omega
  rw [p0 hlt] at hc0;have e0:(a.add (0 * P.cellsOf e)).add 0=a:=by simp [Addr.add]
  rw [e0] at hc0;have hb:=World.block_lt_of_cell? w a hc0
  have hsp:a.spot=none:=by
   unfold World.cell? at hc0;split at hc0
   .split at hc0
    .cases hc0
    .rename_i h5;simpa using h5
   .cases hc0
  obtain ⟨b,o,sp⟩:=a;simp only at hsp hb;subst hsp;refine ⟨b,o,rfl,hb,fun i hi'=>?_⟩;obtain ⟨cs',h1,h2⟩:=hl2 i hi';refine ⟨cs',fun j u hu=>?_,h2⟩;obtain ⟨_,hlen',hc'⟩:=World.cells?_some h1
  have hj:j<P.cellsOf e:=by
   have:=(Vf.1 hu).1;omega
  have:=hc' j hj;rw [hu,Go.Deep.add_add,hs] at this;rw [<- this]
  congr 1
  unfold Addr.add;split
  .rename_i h6;simp_all
  .simp [Wv]
end
end
section
def aF (n:Int):Prop:=-9223372036854775808<=n /\ n<=9223372036854775807
def ah.cells (x:ah):List Value:=[.int .i64 x.op,.int .i64 x.la,.int .i64 x.ln,.int .i64 x.ra,.int .i64 x.rn,.int .i64 x.n,.int .i64 x.u]
def ah.ok (x:ah):Prop:=aF x.op /\ aF x.la /\ aF x.ln /\ aF x.ra /\ aF x.rn /\ aF x.n /\ aF x.u
def fD:gw ah where
 size:=7
 at_:=fun _ _ cs x=>cs=x.cells /\ x.ok
 len:=fun h=>by rw [h.1];rfl
 keep:=fun h _=>h
 mono:=fun h _=>h
structure fx where
 op:Int
 ln:ByteArray
 lv:Int
 rn:ByteArray
 rv:Int
 name:ByteArray
 user:ByteArray
 line:Int
 col:Int
def fx.cells (x:fx):List Value:=[.int .i64 x.op,.string x.ln,.int .i64 x.lv,.string x.rn,.int .i64 x.rv,.string x.name,.string x.user,.int .i64 x.line,.int .i64 x.col]
def fx.ok (x:fx):Prop:=aF x.op /\ aF x.lv /\ aF x.rv /\ aF x.line /\ aF x.col /\ x.ln.size<=9223372036854775807 /\ x.rn.size<=9223372036854775807 /\ x.name.size<=9223372036854775807 /\ x.user.size<=9223372036854775807
def sK:gw fx where
 size:=9
 at_:=fun _ _ cs x=>cs=x.cells /\ x.ok
 len:=fun h=>by rw [h.1];rfl
 keep:=fun h _=>h
 mono:=fun h _=>h
theorem Aj {α:Type} {r:gw α} {cells:α -> List Value} {ok:α -> Prop} (hr:∀ w S cs x,r.at_ w S cs x -> cs=cells x /\ ok x) {w:World} {S:Nat -> Prop} {b o c n:Nat} {l:List α} (h:(aJ r).one w S (.slice (some ⟨b,o,none⟩) n c) l) {k:Nat} (hk:k<l.length) :
  (∀ j u,(cells l[k])[j]? = some u -> w.cell? ⟨b,o+k * r.size+j,none⟩=some u) /\ ok l[k]:=by
 obtain ⟨b',o',e,_,hrow⟩:=dJ h (by omega);simp at e;obtain ⟨rfl,rfl⟩:=e;obtain ⟨cs,h1,h2⟩:=hrow k hk;obtain ⟨rfl,h3⟩:=hr _ _ _ _ h2;exact ⟨h1,h3⟩
theorem tv {w:World} {S:Nat -> Prop} {b o c n:Nat} {l:List ah} (h:(aJ fD).one w S (.slice (some ⟨b,o,none⟩) n c) l) {k:Nat} (hk:k<l.length) :
  (∀ j u,(l[k].cells)[j]? = some u -> w.cell? ⟨b,o+k * 7+j,none⟩=some u) /\ l[k].ok:=Aj (r:=fD) (cells:=ah.cells) (ok:=ah.ok) (fun _ _ _ _ h=>h) h hk
theorem Jn {w:World} {S:Nat -> Prop} {b o c n:Nat} {l:List fx} (h:(aJ sK).one w S (.slice (some ⟨b,o,none⟩) n c) l) {k:Nat} (hk:k<l.length) :
  (∀ j u,(l[k].cells)[j]? = some u -> w.cell? ⟨b,o+k * 9+j,none⟩=some u) /\ l[k].ok:=Aj (r:=sK) (cells:=fx.cells) (ok:=fx.ok) (fun _ _ _ _ h=>h) h hk
theorem sC {α:Type} {r:gw α} (cells:α -> List Value) {l:List α} {w:World} {v:Value} {base:Nat} {e:TypeId} {n:Nat} (hx:∀ x ∈ l,r.at_ w (fun b=>base<=b /\ b<w.heap.size) (cells x) x) (h:w.ownsRow base e r.size v n (l.flatMap cells)) (h0:0<r.size) :
  (aJ r).one w (fun b=>base<=b /\ b<w.heap.size) v l:=by
 have hlen:∀ x ∈ l,(cells x).length=r.size:=fun x hx'=>r.len (hx x hx')
 have key:∀ (l:List α),(∀ x ∈ l,(cells x).length=r.size) -> (l.flatMap cells).length=l.length * r.size /\ ∀ i (hi:i<l.length),((l.flatMap cells).drop (i * r.size)).take r.size=cells l[i]:=by
  intro l
  induction l with
  | nil=>intro _;exact ⟨by simp,fun i hi=>by simp at hi⟩
  | cons a l ih=>
   intro hl;obtain ⟨h1,h2⟩:=ih (fun x hx=>hl x (by simp [hx]));have ha:=hl a (by simp);refine ⟨by rw [Wt,Vk,h1,ha,VN,Xh];omega,fun i hi=>?_⟩;rw [Wt]
   cases i with
   | zero=>rw [Xf,Xy,<- ha,List.take_left];rfl
   | succ i=>
    rw [Xh,Nat.add_comm,<- ha,List.drop_append,ha,List.drop_of_length_le (by omega),WW,show r.size+i * r.size - r.size=i * r.size by omega];exact h2 i (by simpa using hi)
 obtain ⟨h1,h2⟩:=key l hlen
 have hn:n=l.length:=by
  have:=h.1;rw [h1] at this;exact (Nat.eq_of_mul_eq_mul_right h0 this).symm
 exact wA h rfl hn fun i hi=>by rw [h2 i hi];exact hx _ (Vg hi)
end
section
open Go.RowKit Go.ChangeShapes Go.WideShapes Go.Deep
def ym {α:Type} (P:Program) (fs:List Field) (off:Nat) (r:gw α):Prop:=∀ (H:Type) (enc:TypeId × Value -> H) (w:World) (fuel:Nat) (cs:List Value),
 off+r.size<=cs.length -> (∀ (i:Nat) (f:Field),fs[i]? = some f -> ∃ x,DataW.trod enc P w 0 (fun _=>true) true fuel f.type ((cs.drop f.offset).take (P.cellsOf f.type))=some x) ->
 ∃ a,r.at_ w (fun b=>b<w.heap.size) ((cs.drop off).take r.size) a
theorem dG (P:Program) (off:Nat):ym P [] off tU:=fun _ _ _ _ _ _ _=>⟨(),by simp [tU]⟩
theorem aG {α β:Type} {P:Program} {f:Field} {fs:List Field} {off:Nat} {r:gw α} {s:gw β} (ho:f.offset=off) (hc:P.cellsOf f.type=r.size) (h1:dP P f.type r) (h2:ym P fs (off+r.size) s):ym P (f :: fs) off (cy r s):=by
 intro H enc w fuel cs hl hf;have hlr:off+(r.size+s.size)<=cs.length:=hl;obtain ⟨x,hx⟩:=hf 0 f rfl;obtain ⟨a,ha⟩:=h1 H enc w fuel _ _ hx;obtain ⟨b,hb⟩:=h2 H enc w fuel cs (by omega) (fun i g hg=>hf (i+1) g (by simpa using hg));refine ⟨(a,b),_,_,?_,ha,hb⟩;rw [ho,hc];show List.take (r.size+s.size) (cs.drop off)=_;rw [List.take_add,List.drop_drop]
theorem cK {α:Type} {P:Program} {t:TypeId} {fs:Array Field} {r:gw α} (ht:P.underlying t=some (.struct fs)) (hc:P.cellsOf t=r.size) (ho:ym P fs.toList 0 r):dP P t r:=by
 intro H enc w fuel cs x hx;obtain ⟨xs,n,_,_,hl,hlen,hf⟩:=DataW.trod_struct ht hx
 obtain ⟨a,ha⟩:=ho H enc w n cs (by omega) (fun i f hfi=>by
  have hfi':fs[i]? = some f:=by simpa using hfi
  have h1:=hf i f hfi';have hi:i<xs.length:=by rw [hlen];exact (VK.1 hfi').1
  exact ⟨xs[i],by rw [h1,p0 hi]⟩)
 refine ⟨a,?_⟩
 rwa [Xy,VF (by omega)] at ha
theorem wU {P:Program} {t:TypeId} (h:P.underlying t=some .string):dP P t rD:=by
 intro H enc w fuel cs x hx;obtain ⟨s,rfl,_,hs⟩:=DataW.trod_string h hx;exact ⟨s,rfl,by simpa [maxLen] using hs⟩
theorem gL {α β:Type} {P:Program} {t:TypeId} {r:gw α} {s:gw β} (h:dP P t r) (f:α -> β) (hf:∀ w S cs a,r.at_ w S cs a -> s.at_ w S cs (f a)):dP P t s:=by
 intro H enc w fuel cs x hx;obtain ⟨a,ha⟩:=h H enc w fuel cs x hx;exact ⟨f a,hf _ _ _ _ ha⟩
theorem uY {P:Program} {W:World} {r:Reach} {b:Nat} {t:TypeId} {fs:Array Field} {v:Value} (ht:P.underlying t=some (.struct fs)) (h:Value.okWide P W r b t v):∃ cs,v=.agg cs /\ cs.size=P.cellsOf t:=by
 simp only [Value.okWide,ht] at h;obtain ⟨cs,h1,h2,_⟩:=h;exact ⟨cs,h1,h2⟩
theorem aZ {α β:Type} {r:gw α} {s:gw β} {w:World} {S:Nat -> Prop} {cs:List Value} {p:α × β} (h:(cy r s).at_ w S cs p):∃ c1 c2,cs=c1 ++ c2 /\ r.at_ w S c1 p.1 /\ s.at_ w S c2 p.2:=h
theorem fy {α:Type} {r:gw α} {w:World} {S:Nat -> Prop} {cs:List Value} {a:α} (hr:r.size=1) (h:r.at_ w S cs a):∃ v,cs=[v] /\ r.one w S v a:=by
 have:=r.len h;rw [hr] at this
 match cs,this with
 | [v],_=>exact ⟨v,rfl,h⟩
end
section
structure Gd where
 stage:Int
 event:Int
 cond:List ah
structure Ml where
 name:ByteArray
 stage:Int
 event:Int
 cond:List ah
 final:Bool
structure Ev where
 name:ByteArray
 role:Int
 stage:Int
 sets:List Int
 times:Int
structure bl where
 attrs:List ByteArray
 inits:List Int
 users:List ByteArray
 roles:List (ByteArray × Int)
 stages:List (ByteArray × Int)
 events:List Ev
 guards:List Gd
 miles:List Ml
 sods:List (Int × Int)
 order:List (Bool × Int)
def J5 (s:ByteArray):Prop:=s.size<=9223372036854775807
def fR:gw (ByteArray × Int) where
 size:=2
 at_:=fun _ _ cs x=>cs=[.string x.1,.int .i64 x.2] /\ J5 x.1 /\ aF x.2
 len:=fun h=>by rw [h.1];rfl
 keep:=fun h _=>h
 mono:=fun h _=>h
def pz:gw (Int × Int) where
 size:=2
 at_:=fun _ _ cs x=>cs=[.int .i64 x.1,.int .i64 x.2] /\ aF x.1 /\ aF x.2
 len:=fun h=>by rw [h.1];rfl
 keep:=fun h _=>h
 mono:=fun h _=>h
def oO:gw (Bool × Int) where
 size:=2
 at_:=fun _ _ cs x=>cs=[.bool x.1,.int .i64 x.2] /\ aF x.2
 len:=fun h=>by rw [h.1];rfl
 keep:=fun h _=>h
 mono:=fun h _=>h
def Tu:gw Gd where
 size:=3
 at_:=fun w S cs g=>∃ cv,cs=[.int .i64 g.stage,.int .i64 g.event,cv] /\ (aJ fD).one w S cv g.cond /\ aF g.stage /\ aF g.event
 len:=fun ⟨_,h,_⟩=>by rw [h];rfl
 keep:=fun ⟨cv,h,h2,h3⟩ hk=>⟨cv,h,nz h2 hk,h3⟩
 mono:=fun ⟨cv,h,h2,h3⟩ hB=>⟨cv,h,gQ h2 hB,h3⟩
def Tp:gw Ml where
 size:=5
 at_:=fun w S cs g=>∃ cv,cs=[.string g.name,.int .i64 g.stage,.int .i64 g.event,cv,.bool g.final] /\ (aJ fD).one w S cv g.cond /\ aF g.stage /\ aF g.event /\ J5 g.name
 len:=fun ⟨_,h,_⟩=>by rw [h];rfl
 keep:=fun ⟨cv,h,h2,h3⟩ hk=>⟨cv,h,nz h2 hk,h3⟩
 mono:=fun ⟨cv,h,h2,h3⟩ hB=>⟨cv,h,gQ h2 hB,h3⟩
def TF:gw Ev where
 size:=5
 at_:=fun w S cs g=>∃ cv,cs=[.string g.name,.int .i64 g.role,.int .i64 g.stage,cv,.int .i64 g.times] /\ (aJ (fl .i64)).one w S cv g.sets /\ aF g.role /\ aF g.stage /\ aF g.times /\ J5 g.name
 len:=fun ⟨_,h,_⟩=>by rw [h];rfl
 keep:=fun ⟨cv,h,h2,h3⟩ hk=>⟨cv,h,nz h2 hk,h3⟩
 mono:=fun ⟨cv,h,h2,h3⟩ hB=>⟨cv,h,gQ h2 hB,h3⟩
def SI {α:Type} (r:gw α) (w:World) (v:Value) (l:List α):Prop:=(aJ r).one w (fun b=>b<w.heap.size) v l
structure MV where
 attrs:Value
 inits:Value
 users:Value
 roles:Value
 stages:Value
 events:Value
 guards:Value
 miles:Value
 sods:Value
 order:Value
abbrev MV.cells (V:MV):Array Value:=#[V.attrs,V.inits,V.users,V.roles,V.stages,V.events,V.guards,V.miles,V.sods,V.order]
structure Jm (w:World) (V:MV) (m:bl):Prop where
 attrs:SI rD w V.attrs m.attrs
 inits:SI (fl .i64) w V.inits m.inits
 users:SI rD w V.users m.users
 roles:SI fR w V.roles m.roles
 stages:SI fR w V.stages m.stages
 events:SI TF w V.events m.events
 guards:SI Tu w V.guards m.guards
 miles:SI Tp w V.miles m.miles
 sods:SI pz w V.sods m.sods
 order:SI oO w V.order m.order
end
section
theorem nL (i:Int) (w:World):Calls Tryz.prog 156 #[.int .i64 i] w fun e w'=>e=.returned (.bool (decide (0<=i) && decide (i<31))) /\ w=w':=by
 by_cases h:0<=i<;>(go_enter Tryz.func156,Tryz.ntmps156;go_wp2;go_ret;exact ⟨by congr 2;simp [h]<;>omega,rfl⟩)
theorem oY {a b:Bool} (h:a=b):Ending.returned (.bool a)=.returned (.bool b):=by rw [h]
theorem Oe {a b:Int} (h:a=b):Ending.returned (.int .i64 a)=.returned (.int .i64 b):=by rw [h]
theorem xU (s i:Int) (w:World):Calls Tryz.prog 129 #[.int .i64 s,.int .i64 i] w fun e w'=>e=.returned (.bool (bq s i)) /\ w=w':=by
 by_cases h0:0<=i
 .by_cases h1:i<31
  .have e0:decide (0<=i)=true:=by simp;omega
   have e1:decide (i<31)=true:=by simp;omega
   go_enter Tryz.func129,Tryz.ntmps129
   go_wp2_with (go_at_call 156;refine (nL _ _).mono ?_;rintro e w' ⟨rfl,rfl⟩)
   go_ret
   exact ⟨oY (by unfold bq;rw [Bt,e0,e1];rfl),rfl⟩
  .have e0:decide (0<=i)=true:=by simp;omega
   have e1:decide (i<31)=false:=by simp;omega
   go_enter Tryz.func129,Tryz.ntmps129
   go_wp2_with (go_at_call 156;refine (nL _ _).mono ?_;rintro e w' ⟨rfl,rfl⟩)
   go_ret
   exact ⟨oY (by unfold bq;rw [e0,e1];rfl),rfl⟩
 .have e0:decide (0<=i)=false:=by simp;omega
  go_enter Tryz.func129,Tryz.ntmps129
  go_wp2_with (go_at_call 156;refine (nL _ _).mono ?_;rintro e w' ⟨rfl,rfl⟩)
  go_ret
  exact ⟨oY (by unfold bq;rw [e0];rfl),rfl⟩
theorem RA (op c:Int) (w:World):Calls Tryz.prog 190 #[.int .i64 op,.int .i64 c] w fun e w'=>e=.returned (.bool (Rf op c)) /\ w=w':=by
 have key:(op=3 \/ op=4 \/ op=5 \/ op=6 \/ op=7 \/ op=8) \/ ((op == 3)=false /\ (op == 4)=false /\ (op == 5)=false /\ (op == 6)=false /\ (op == 7)=false /\ (op == 8)=false):=by
  simp;omega
 rcases key with (rfl|rfl|rfl|rfl|rfl|rfl)|⟨h3,h4,h5,h6,h7,h8⟩
 all_goals
  go_enter Tryz.func190,Tryz.ntmps190
  go_wp2
  go_ret
  refine ⟨oY ?_,rfl⟩
  first|rfl|(simp at h3 h4 h5 h6 h7 h8;simp [Rf, *])
theorem kd (op:Int) (w:World):Calls Tryz.prog 37 #[.int .i64 op] w fun e w'=>e=.returned (.int .i64 (aC op)) /\ w=w':=by
 have key:(1<=op /\ op<=14) \/ op=15 \/ (19<=op /\ op<=24) \/ (16<=op /\ op<=18) \/ op=25 \/ op=26 \/ op<1 \/ 26<op:=by omega
 rcases key with ⟨h1,h2⟩|rfl|⟨h1,h2⟩|⟨h1,h2⟩|rfl|rfl|h1|h1
 all_goals
  go_enter Tryz.func37,Tryz.ntmps37
  go_wp2
  all_goals go_ret
  all_goals refine ⟨Oe ?_,rfl⟩
  all_goals (unfold aC;(repeat' split)<;>first|rfl|omega)
end
end
section
section
def lx (s:Int):Nat:=(s % 2147483648).toNat
theorem gp (s:Int):lx s<2 ^ 31:=by unfold lx;omega
theorem tk (n:Nat) (h:n<2 ^ 31):lx (n:Int)=n:=by unfold lx;omega
def dN (s i:Int):Int:=if 0<=i /\ i<31 then ((lx s ||| 2 ^ i.toNat:Nat):Int) else (lx s:Int)
def cr (s i:Int):Int:=if 0<=i /\ i<31 then ((lx s ^^^ (lx s &&& 2 ^ i.toNat):Nat):Int) else (lx s:Int)
theorem cW (s:Int) (j:Nat) (hj:j<31):bq s (j:Int)=(lx s).testBit j:=by
 have h1:bq s (j:Int)=(s / 2 ^ j % 2 == 1):=by
  unfold bq;rw [show decide (0<=(j:Int))=true by simp,show decide ((j:Int)<31)=true by simp;omega];rfl
 rw [h1,Nat.testBit_eq_decide_div_mod_eq]
 have hs:s=2 ^ j * (2 ^ (30 - j) * 2 * (s / 2147483648))+s % 2147483648:=by
  have e:(2:Int) ^ j * (2 ^ (30 - j) * 2 * (s / 2147483648))=(2 ^ j * 2 ^ (30 - j) * 2) * (s / 2147483648):=by
   rw [<- Int.mul_assoc,<- Int.mul_assoc]
  rw [e,<- Int.pow_add,show j+(30 - j)=30 by omega];have:=Int.mul_ediv_add_emod s 2147483648;omega
 have h2:s / 2 ^ j % 2=((lx s / 2 ^ j % 2:Nat):Int):=by
  have hr:((lx s:Nat):Int)=s % 2147483648:=by unfold lx;omega
  rw [Int.natCast_emod,Int.natCast_ediv,hr];have hp:((2 ^ j:Nat):Int)=2 ^ j:=by simp
  rw [hp]
  conv=>lhs;rw [hs]
  rw [Int.add_comm,Int.add_mul_ediv_left _ _ (by have:(0:Int)<2 ^ j:=Int.pow_pos (by omega);omega)];rw [show (2:Int) ^ (30 - j) * 2 * (s / 2147483648)=2 * (2 ^ (30 - j) * (s / 2147483648)) by rw [Int.mul_comm ((2:Int) ^ (30 - j)) 2,Int.mul_assoc]];omega
 rw [h2];generalize lx s / 2 ^ j % 2=n;rw [Ws];simp;omega
theorem jB (s j:Int) (hj:¬ (0<=j /\ j<31)):bq s j=false:=by
 unfold bq;by_cases h:0<=j
 .rw [show decide (j<31)=false by simp;omega];simp
 .rw [show decide (0<=j)=false by simp;omega];rfl
theorem vw (s i j:Int):bq (dN s i) j=((decide (0<=i /\ i<31) && (j == i)) || bq s j):=by
 by_cases hj:0<=j /\ j<31
 .obtain ⟨n,rfl⟩:∃ n:Nat,j=(n:Int):=⟨j.toNat,by omega⟩;unfold dN;by_cases hi:0<=i /\ i<31
  .obtain ⟨k,rfl⟩:∃ k:Nat,i=(k:Int):=⟨i.toNat,by omega⟩;have hl:lx s ||| 2 ^ k<2 ^ 31:=Nat.or_lt_two_pow (gp s) (Nat.pow_lt_pow_right (by omega) (by omega));rw [Vo hi,Wy,cW _ _ (by omega),tk _ hl,Nat.testBit_or,cW _ _ (by omega),Nat.testBit_two_pow,Bool.or_comm]
   congr 1
   rw [Ws];simp;omega
  .rw [Vj hi,cW _ _ (by omega),tk _ (gp s),cW _ _ (by omega)];simp [hi]
 .rw [jB _ _ hj,jB _ _ hj,XQ];symm;rw [VW];by_cases hi:0<=i /\ i<31
  .right;exact VP.2 (by omega)
  .left;simpa using hi
theorem iZ (s i j:Int):bq (cr s i) j=(!(j == i) && bq s j):=by
 by_cases hj:0<=j /\ j<31
 .obtain ⟨n,rfl⟩:∃ n:Nat,j=(n:Int):=⟨j.toNat,by omega⟩;unfold cr;by_cases hi:0<=i /\ i<31
  .obtain ⟨k,rfl⟩:∃ k:Nat,i=(k:Int):=⟨i.toNat,by omega⟩;have hl:lx s ^^^ (lx s &&& 2 ^ k)<2 ^ 31:=Nat.xor_lt_two_pow (gp s) (XG Nat.and_le_left (gp s));rw [Vo hi,Wy,cW _ _ (by omega),tk _ hl,Nat.testBit_xor,Nat.testBit_and,Nat.testBit_two_pow,cW _ _ (by omega)];by_cases e:n=k
   .subst e;cases (lx s).testBit n<;>simp
   .rw [show ((n:Int) == (k:Int))=false from VP.2 (by omega),show decide (k=n)=false by simp;omega];simp
  .rw [Vj hi,cW _ _ (by omega),tk _ (gp s),cW _ _ (by omega),show ((n:Int) == i)=false from VP.2 (by omega)];rfl
 .rw [jB _ _ hj,jB _ _ hj,Bool.and_false]
theorem iG (a:Nat) (ha:a<2 ^ 64):(BitVec.ofInt 64 (a:Int)).toNat=a:=by
 rw [BitVec.ofInt_natCast,BitVec.toNat_ofNat];exact Nat.mod_eq_of_lt ha
theorem tz (n:Nat) (h:n<2 ^ 63):IntKind.i64.wrap (n:Int)=(n:Int):=by
 simp [IntKind.wrap,IntKind.bits,IntKind.signed];omega
end
section
abbrev cq (x:ah):List AV:=[eI x.op,eI x.la,eI x.ln,eI x.ra,eI x.rn,eI x.n,eI x.u]
abbrev aX (l:List ah):AV:=.sl 7 (l.map cq)
abbrev JL (g:Gd):List AV:=[eI g.stage,eI g.event,aX g.cond]
abbrev HH (g:Ml):List AV:=[eS g.name,eI g.stage,eI g.event,aX g.cond,eB g.final]
abbrev OU (g:Ev):List AV:=[eS g.name,eI g.role,eI g.stage,sI g.sets,eI g.times]
abbrev Tx (p:ByteArray × Int):List AV:=[eS p.1,eI p.2]
abbrev Tq (p:Int × Int):List AV:=[eI p.1,eI p.2]
abbrev yA (p:Bool × Int):List AV:=[eB p.1,eI p.2]
abbrev aQ (m:bl):List AV:=[.sl 1 (m.attrs.map fun s=>[eS s]),sI m.inits,.sl 1 (m.users.map fun s=>[eS s]),.sl 2 (m.roles.map Tx),.sl 2 (m.stages.map Tx),.sl 5 (m.events.map OU),.sl 3 (m.guards.map JL),.sl 5 (m.miles.map HH),.sl 2 (m.sods.map Tq),.sl 2 (m.order.map yA)]
abbrev gh (s:St):List AV:=[sI s.vals,eI s.opn,eI s.don,sI s.did,sI s.cnt]
def gz (m:bl):List Int:=m.stages.map (·.2)
def Db (m:bl):Prop:=(∀ g ∈ m.guards,∀ x ∈ g.cond,x.ok) /\ ∀ g ∈ m.miles,∀ x ∈ g.cond,x.ok
theorem ag:Tryz.prog.follows .mixedOrders=true:=by kernel_rfl
def xf (m:bl):Prop:=m.guards.length<=14 /\ m.miles.length<=10 /\ m.stages.length<=10 /\ m.events.length<=10 /\ m.attrs.length<=10 /\ m.users.length<=10 /\ m.roles.length<=10 /\ m.sods.length<=10 /\ m.order.length<=40 /\ m.inits.length<=10
structure uX (m:bl):Prop where
 sizes:xf m
 guards:∀ g ∈ m.guards,g.cond.length<=80
 miles:∀ g ∈ m.miles,g.cond.length<=80
 events:∀ g ∈ m.events,g.sets.length<=10
theorem E3 (m:bl):dQ Tryz.prog 17 [.agg (aQ m)] fun R=>∃ b,R=val (.bool b) /\ (b=false -> uX m):=by
 refine bj ag Tryz.func17 rfl (by decide) Tryz.ntmps17 Tryz.results17 rfl ?_
 repeat' first|refine go ?_|decide|refine sp ?_ ?_<;>intro _
 all_goals first|with_reducible exact cI ⟨true,rfl,fun h=>by cases h⟩|skip
 have hS:xf m:=by simp_all [xf];omega
 obtain ⟨h1,h2,h3,h4,h5,h6,h7,h8,h9,h10⟩:=id hS;refine ae (fun st=>∃ k:Nat,k<=m.guards.length /\ (∀ i (h:i<m.guards.length),i<k -> m.guards[i].cond.length<=80) /\ st=⟨109,[(1,.op 0 0 0),(3,eI (k:Int))],[(0,some (.box 32 (aQ m)))],1⟩) (fun st=>m.guards.length - ap st 3) ⟨_,wC,0,Vd _,?_,rfl⟩ ?_
 .exact fun i h h2=>absurd h2 (by omega)
 rintro _ ⟨k,hk,hg,rfl⟩;by_cases hlt:k<m.guards.length
 .repeat' first|refine go ?_|simp only [ab,hlt]|decide|refine sp ?_ ?_<;>intro _
  .with_reducible exact cI ⟨true,rfl,fun h=>by cases h⟩
  .rename_i hc;refine rI wC ⟨k+1,by omega,fun i h h2=>?_,rfl⟩;rcases Vw i k with h3|h3
   .exact hg i h h3
   .obtain rfl:i=k:=by omega
    simp at hc;omega
 repeat' first|decide|refine go ?_|simp only [ab,hlt]
 refine ae (fun st=>∃ q:Nat,q<=m.miles.length /\ (∀ i (h:i<m.miles.length),i<q -> m.miles[i].cond.length<=80) /\ st=⟨109,[(1,.op 0 0 0),(4,eI (q:Int))],[(0,some (.box 32 (aQ m)))],1⟩) (fun st=>m.miles.length - ap st 4) ⟨_,wC,0,Vd _,?_,rfl⟩ ?_
 .exact fun i h h2=>absurd h2 (by omega)
 rintro _ ⟨q,hq,hm,rfl⟩;by_cases hlt2:q<m.miles.length
 .repeat' first|refine go ?_|simp only [ab,hlt2]|decide|refine sp ?_ ?_<;>intro _
  .with_reducible exact cI ⟨true,rfl,fun h=>by cases h⟩
  .rename_i hc;refine rI wC ⟨q+1,by omega,fun i h h2=>?_,rfl⟩;rcases Vw i q with h3|h3
   .exact hm i h h3
   .obtain rfl:i=q:=by omega
    simp at hc;omega
 repeat' first|decide|refine go ?_|simp only [ab,hlt2]
 refine ae (fun st=>∃ r:Nat,r<=m.events.length /\ (∀ i (h:i<m.events.length),i<r -> m.events[i].sets.length<=10) /\ st=⟨109,[(1,.op 0 0 0),(5,eI (r:Int))],[(0,some (.box 32 (aQ m)))],1⟩) (fun st=>m.events.length - ap st 5) ⟨_,wC,0,Vd _,?_,rfl⟩ ?_
 .exact fun i h h2=>absurd h2 (by omega)
 rintro _ ⟨r,hr,he,rfl⟩;by_cases hlt3:r<m.events.length
 .repeat' first|refine go ?_|simp only [ab,hlt3]|decide|refine sp ?_ ?_<;>intro _
  .with_reducible exact cI ⟨true,rfl,fun h=>by cases h⟩
  .rename_i hc;refine rI wC ⟨r+1,by omega,fun i h h2=>?_,rfl⟩;rcases Vw i r with h3|h3
   .exact he i h h3
   .obtain rfl:i=r:=by omega
    simp at hc;omega
 repeat' first|decide|refine go ?_|simp only [ab,hlt3]
 refine cI ⟨false,rfl,fun _=>⟨hS,fun g hg'=>?_,fun g hg'=>?_,fun g hg'=>?_⟩⟩
 .obtain ⟨i,hi,rfl⟩:=VD hg';exact hg i hi (by omega)
 .obtain ⟨i,hi,rfl⟩:=VD hg';exact hm i hi (by omega)
 .obtain ⟨i,hi,rfl⟩:=VD hg';exact he i hi (by omega)
def eV (n most:Int):Bool:=decide (0<=n) && decide (n<most)
theorem uP (n most:Int):aw Tryz.prog 63 [eI n,eI most] (val (.bool (eV n most))):=by
 refine aa ag Tryz.func63 rfl (by decide) Tryz.ntmps63 Tryz.results63 rfl (aI _) ?_
 repeat' first|decide|refine go ?_
 unfold eV
 with_reducible refine wc (fun h=>?_) (fun h=>?_)<;>simp -implicitDefEqProofs (maxSteps:=5000000) only [uy,↓reduceIte,reduceCtorEq,Nat.reduceLT,Nat.reduceEqDiff,Nat.reduceAdd,Nat.reduceMul,Nat.reduceSub,Nat.reduceLeDiff,Nat.reduceBEq]<;>simp at h<;>simp [h]<;>omega
theorem Sz (m:bl) (l:List Int) (hl:l.length<=1000000) (b:Bool) (hb:b=true ↔ ∀ i (h:i<l.length),eV l[i] m.attrs.length=true /\ ∀ j (h:j<i),l[j] ≠ l[i]):aw Tryz.prog 64 [.agg (aQ m),sI l] (val (.bool b)):=by
 refine aa ag Tryz.func64 rfl (by decide) Tryz.ntmps64 Tryz.results64 rfl (aI _) ?_
 repeat' first|decide|refine go ?_
 refine ae (fun st=>∃ k:Nat,k<=l.length /\ (∀ i (h:i<l.length),i<k -> eV l[i] m.attrs.length=true /\ ∀ j (h:j<i),l[j] ≠ l[i]) /\ st=⟨36,[(1,sI l),(2,.op 0 0 0),(5,eI k)],[(0,some (.box 32 (aQ m)))],1⟩) (fun st=>l.length - ap st 5)
  ⟨_,wC,0,Vd _,fun i h1 h2=>absurd h2 (by omega),rfl⟩ ?_
 rintro _ ⟨k,hk,hI,rfl⟩;by_cases hlt:k<l.length
 .repeat' first|decide|refine go ?_|simp only [ab,hlt]
  refine aA (by kernel_rfl) ?_
  repeat' first|decide|refine go ?_|simp only [ab,hlt]
  refine aL (uP _ _) ?_
  repeat' first|decide|refine go ?_|simp only [ab,hlt]
  with_reducible refine kj (fun hin=>?_) (fun hin=>?_)<;>simp -implicitDefEqProofs (maxSteps:=5000000) only [uy,↓reduceIte,reduceCtorEq,Nat.reduceLT,Nat.reduceEqDiff,Nat.reduceAdd,Nat.reduceMul,Nat.reduceSub,Nat.reduceLeDiff,Nat.reduceBEq,ab,hlt]
  .simp at hin;symm;rw [Wi];intro hbt;have:=(hb.1 hbt k hlt).1;rw [hin] at this;cases this
  .simp at hin
   refine ae (fun st=>∃ q:Nat,q<=k /\ (∀ j (h:j<k),j<q -> l[j] ≠ l[k]) /\ st=⟨36,[(1,sI l),(2,.op 0 0 0),(5,eI k),(6,eI q)],[(0,some (.box 32 (aQ m)))],1⟩) (fun st=>k - ap st 6)
    ⟨_,wC,0,Vd _,fun i h1 h2=>absurd h2 (by omega),rfl⟩ ?_
   rintro _ ⟨q,hq,hJ,rfl⟩;by_cases hqk:q<k
   .have hql:q<l.length:=by omega
    repeat' first|decide|refine go ?_|simp only [ab,hlt,hqk,hql]
    refine aA (by kernel_rfl) ?_
    repeat' first|decide|refine go ?_|simp only [ab,hlt,hqk,hql]
    with_reducible refine kj (fun he=>?_) (fun he=>?_)<;>simp -implicitDefEqProofs (maxSteps:=5000000) only [uy,↓reduceIte,reduceCtorEq,Nat.reduceLT,Nat.reduceEqDiff,Nat.reduceAdd,Nat.reduceMul,Nat.reduceSub,Nat.reduceLeDiff,Nat.reduceBEq,ab,hlt,hqk,hql]
    .symm;rw [Wi];intro hbt;exact (hb.1 hbt k hlt).2 q hqk (by simpa using he)
    .refine cZ wC ⟨q+1,by omega,fun j h1 h2=>?_,rfl⟩ ?_
     .simp at he;rcases Vw j q with h3|h3
      .exact hJ j h1 h3
      .obtain rfl:j=q:=by omega
       exact he
     .exact (by simp only [ap,iz,aj.get,bb,aj.put,↓reduceIte,reduceCtorEq,Nat.reduceLT,Nat.reduceEqDiff,Nat.reduceAdd,Nat.reduceLeDiff,eq_self,implies_true];omega)
   .repeat' first|decide|refine go ?_|simp only [ab,hlt,hqk]
    refine cZ wC ⟨k+1,by omega,fun j h1 h2=>?_,rfl⟩ ?_
    .rcases Vw j k with h3 | h3
     .exact hI j h1 h3
     .obtain rfl:j=k:=by omega
      exact ⟨hin,fun i hi=>hJ i hi (by omega)⟩
    .exact (by simp only [ap,iz,aj.get,bb,aj.put,↓reduceIte,reduceCtorEq,Nat.reduceLT,Nat.reduceEqDiff,Nat.reduceAdd,Nat.reduceLeDiff,eq_self,implies_true];omega)
 .repeat' first|decide|refine go ?_|simp only [ab,hlt]
  symm;exact hb.2 fun i h=>hI i h (by omega)
theorem Bv (a b:List Int) (ha:a.length<=1000000):aw Tryz.prog 126 [sI a,sI b] (val (.bool (decide (a=b)))):=by
 refine aa ag Tryz.func126 rfl (by decide) Tryz.ntmps126 Tryz.results126 rfl (aI _) ?_
 repeat' first|decide|refine go ?_
 with_reducible refine kj (fun he=>?_) (fun he=>?_)<;>simp -implicitDefEqProofs (maxSteps:=5000000) only [uy,↓reduceIte,reduceCtorEq,Nat.reduceLT,Nat.reduceEqDiff,Nat.reduceAdd,Nat.reduceMul,Nat.reduceSub,Nat.reduceLeDiff,Nat.reduceBEq]
 .symm;rw [VA];rintro rfl;simp at he
 have hl:a.length=b.length:=by simp at he;omega
 refine ae (fun st=>∃ k:Nat,k<=a.length /\ (∀ i (h:i<a.length) (h2:i<b.length),i<k -> a[i]=b[i]) /\ st=⟨26,[(0,sI a),(1,sI b),(5,eI (k:Int))],[],0⟩) (fun st=>a.length - ap st 5) ⟨_,wC,0,Vd _,?_,rfl⟩ ?_
 .exact fun i h h2 h3=>absurd h3 (by omega)
 rintro _ ⟨k,hk,hI,rfl⟩;by_cases hlt:k<a.length
 .have hlt2:k<b.length:=by omega
  repeat' first|decide|refine go ?_|simp only [ab,hlt,hlt2]
  refine aA (by kernel_rfl) ?_
  repeat' first|decide|refine go ?_|simp only [ab,hlt,hlt2]
  with_reducible refine kj (fun hn=>?_) (fun hn=>?_)<;>simp -implicitDefEqProofs (maxSteps:=5000000) only [uy,↓reduceIte,reduceCtorEq,Nat.reduceLT,Nat.reduceEqDiff,Nat.reduceAdd,Nat.reduceMul,Nat.reduceSub,Nat.reduceLeDiff,Nat.reduceBEq,ab,hlt,hlt2]
  .symm;rw [VA];rintro rfl;simp at hn
  .refine rI wC ⟨k+1,by omega,fun i h h2 h3=>?_,rfl⟩;rcases Vw i k with h4|h4
   .exact hI i h h2 h4
   .obtain rfl:i=k:=by omega
    simpa using hn
 .repeat' first|decide|refine go ?_|simp only [ab,hlt]
  symm;rw [decide_eq_true_iff];exact XA hl fun i h1 h2=>hI i h1 h2 (by omega)
end
section
theorem vi:∀ (n:Nat) (l:List Int),l.Nodup -> (∀ x ∈ l,0<=x /\ x<(n:Int)) -> l.length<=n:=by
 intro n
 induction n with
 | zero=>
  intro l _ h
  cases l with
  | nil=>simp
  | cons x l=>have:=h x (by simp);omega
 | succ n ih=>
  intro l hn h;by_cases hm:(n:Int) ∈ l
  .have h1:=ih (l.erase (n:Int)) (hn.erase _) (fun x hx=>by
    have:=(hn.mem_erase_iff).1 hx;have:=h x this.2;omega)
   rw [List.length_erase_of_mem hm] at h1;omega
  .have:=ih l hn (fun x hx=>by
    have h2:=h x hx;have:x ≠ (n:Int):=fun e=>hm (e ▸ hx);omega)
   omega
def jd (l:List Int) (i:Int):Prop:=0<=i /\ i<(l.length:Int)
instance (l:List Int) (i:Int):Decidable (jd l i):=by unfold jd;infer_instance
def tG (l:List Int) (i:Int):Int:=if jd l i then i else -1
def mD (l:List Int) (i:Int):Int:=if jd l i then tG l (l.getD i.toNat 0) else -1
def iO (l:List Int) (i:Int):Nat -> Int
 | 0=>tG l i
 | k+1=>mD l (iO l i k)
def JR (l:List Int) (i:Int):Nat -> Int -> List Int -> List Int
 | 0,_,out=>out
 | f+1,p,out=>if mD l p = -1 \/ mD l p=i \/ mD l p ∈ out then out else JR l i f (mD l p) (out ++ [mD l p])
def fK (l:List Int) (i:Int):List Int:=JR l i l.length i []
theorem jC (l:List Int) (i:Int):(jd l i /\ tG l i=i) \/ (¬ jd l i /\ tG l i = -1):=by
 unfold tG;split<;>simp [*]
theorem ME (l:List Int) (i:Int):tG l i = -1 \/ jd l (tG l i):=by
 rcases jC l i with ⟨h,e⟩|⟨_,e⟩<;>rw [e]
 .exact .inr h
 .exact .inl rfl
theorem Rg (l:List Int) (i:Int):mD l i = -1 \/ jd l (mD l i):=by
 unfold mD;split
 .exact ME _ _
 .exact .inl rfl
theorem yM (l:List Int) (i:Int):mD l (tG l i)=mD l i:=by
 rcases jC l i with ⟨h,e⟩|⟨h,e⟩
 .rw [e]
 .rw [e];unfold mD;rw [Vj h,Vj (by simp [jd])]
theorem t3 (l:List Int):mD l (-1) = -1:=by unfold mD;rw [Vj (by simp [jd])]
theorem AQ (l:List Int) (i:Int) (k:Nat) (h:iO l i k = -1):∀ d,iO l i (k+d) = -1
 | 0=>h
 | d+1=>by rw [<- Wv,iO,AQ l i k h d,t3]
theorem xq (l:List Int) (i:Int):iO l i 1=mD l i:=yM l i
structure pG (l:List Int) (i:Int) (m:Nat) (p:Int) (out:List Int):Prop where
 len:out.length=m
 eq:∀ j,j<m -> out[j]? = some (iO l i (j+1))
 cur:mD l p=iO l i (m+1)
 nodup:out.Nodup
 at_:∀ x ∈ out,jd l x
 not:i ∉ out
 room:m<=l.length
 rest:JR l i (l.length - m) p out=fK l i
theorem pG.start (l:List Int) (i:Int):pG l i 0 i []:=
 ⟨rfl,fun j h=>by omega,(xq l i).symm,List.nodup_nil,fun x h=>by simp at h,by simp,by omega,rfl⟩
def pa (l:List Int) (i:Int) (p:Int) (out:List Int):Prop:=mD l p = -1 \/ mD l p=i \/ mD l p ∈ out
instance (l:List Int) (i p:Int) (out:List Int):Decidable (pa l i p out):=by unfold pa;infer_instance
theorem pG.stop {l:List Int} {i:Int} {m:Nat} {p:Int} {out:List Int} (h:pG l i m p out) (hs:pa l i p out):out=fK l i:=by
 rw [<- h.rest]
 cases l.length - m with
 | zero=>rfl
 | succ f=>rw [JR];exact (Vo hs).symm
theorem pG.next {l:List Int} {i:Int} {m:Nat} {p:Int} {out:List Int} (h:pG l i m p out) (hs:¬ pa l i p out):pG l i (m+1) (mD l p) (out ++ [mD l p]) /\ m+1<=l.length:=by
 unfold pa at hs;simp only [not_or] at hs;have hat:jd l (mD l p):=(Rg l p).resolve_left hs.1
 have hnd:(out ++ [mD l p]).Nodup:=by
  rw [Xq];refine ⟨h.nodup,by simp,fun a ha b hb e=>?_⟩;simp at hb;subst hb;subst e;exact hs.2.2 ha
 have hall:∀ x ∈ out ++ [mD l p],jd l x:=by
  intro x hx;rcases Vs.1 hx with hx|hx
  .exact h.at_ x hx
  .simp at hx;subst hx;exact hat
 have hlen:m+1<=l.length:=by
  have:=vi l.length _ hnd hall;simp [h.len] at this;exact this
 refine ⟨⟨by simp [h.len],fun j hj=>?_,by rw [show iO l i (m+1+1)=mD l (iO l i (m+1)) from rfl,h.cur],hnd,hall,?_,hlen,?_⟩,hlen⟩
 .by_cases hjm:j<m
  .rw [VO (by rw [h.len];exact hjm)];exact h.eq j hjm
  .have:j=m:=by omega
   subst this;rw [VQ (by rw [h.len];omega),h.len,Nat.sub_self];simp [h.cur]
 .intro hi;rcases Vs.1 hi with hi|hi
  .exact h.not hi
  .simp at hi;exact hs.2.1 hi.symm
 .have:=h.rest;rw [show l.length - m=(l.length - (m+1))+1 from by omega,JR,Vj (by simp only [not_or];exact hs)] at this;exact this
theorem DI (l:List Int) (i:Int):∃ m p,pG l i m p (fK l i) /\ pa l i p (fK l i):=by
 have key:∀ (f m:Nat) (p:Int) (out:List Int),pG l i m p out -> l.length+1 - m<=f -> ∃ m p,pG l i m p (fK l i) /\ pa l i p (fK l i):=by
  intro f
  induction f with
  | zero=>intro m p out h hf;have:=h.room;omega
  | succ f ih=>
   intro m p out h hf;by_cases hs:pa l i p out
   .have e:=h.stop hs;rw [e] at h hs;exact ⟨m,p,h,hs⟩
   .have:=(h.next hs).1;exact ih _ _ _ this (by omega)
 exact key _ 0 i [] (pG.start l i) (Vh _)
def pQ (l:List Int) (i:Int):Prop:=jd l i /\ mD l (((fK l i).getLast?).getD i)=i
instance (l:List Int) (i:Int):Decidable (pQ l i):=by unfold pQ;infer_instance
theorem Iv {l:List Int} {i:Int} {m:Nat} {p:Int} {out:List Int} (h:pG l i m p out):mD l ((out.getLast?).getD i)=iO l i (m+1):=by
 cases m with
 | zero=>
  have:out=[]:=WI h.len;subst this;exact (xq l i).symm
 | succ m=>
  have h1:=h.eq m (by omega);rw [List.getLast?_eq_getElem?,h.len,WA,h1];rfl
theorem Id {l:List Int} {i:Int} {m:Nat} {p:Int} (h:pG l i m p (fK l i)) (hs:pa l i p (fK l i)) (hc:iO l i (m+1) ≠ i \/ i = -1):∀ j,iO l i (j+1) = -1 \/ iO l i (j+1) ∈ fK l i:=by
 have hst:iO l i (m+1) = -1 \/ iO l i (m+1) ∈ fK l i:=by
  rw [<- h.cur];rcases hs with hs|hs|hs
  .exact .inl hs
  .rw [h.cur] at hs;rcases hc with hc|hc
   .exact absurd hs hc
   .rw [h.cur,hs,hc];exact .inl rfl
  .exact .inr hs
 intro j
 induction j with
 | zero=>
  cases m with
  | zero=>exact hst
  | succ m=>exact .inr (Os (h.eq 0 (by omega)))
 | succ j ih=>
  rcases ih with ih|ih
  .left;rw [iO,ih,t3]
  .obtain ⟨a,ha⟩:=List.mem_iff_getElem?.1 ih;have ham:a<m:=by rw [<- h.len];exact (Vf.1 ha).1
   rw [h.eq a ham] at ha
   have e:iO l i (j+1+1)=iO l i (a+1+1):=by
    show mD l (iO l i (j+1))=mD l (iO l i (a+1));rw [WD ha]
   rw [e];by_cases ham2:a+1<m
   .exact .inr (Os (h.eq (a+1) ham2))
   .have:a+1=m:=by omega
    rw [this];exact hst
theorem w6 {l:List Int} {i:Int} {x:Int} (hx:x ∈ fK l i):∃ j,1<=j /\ j<=l.length /\ iO l i j=x:=by
 obtain ⟨m,p,h,_⟩:=DI l i;obtain ⟨a,ha⟩:=List.mem_iff_getElem?.1 hx;have ham:a<m:=by rw [<- h.len];exact (Vf.1 ha).1
 rw [h.eq a ham] at ha;exact ⟨a+1,by omega,by have:=h.room;omega,WD ha⟩
theorem wk (l:List Int) (i x:Int) (hx:0<=x) (hne:i ≠ x):x ∈ fK l i ↔ ∃ j,1<=j /\ j<=l.length /\ iO l i j=x:=by
 refine ⟨w6,fun ⟨j,h1,h2,h3⟩=>?_⟩;obtain ⟨m,p,h,hs⟩:=DI l i;by_cases hc:iO l i (m+1)=i
 .
  have key:∀ j,iO l i (j+1) ∈ fK l i \/ iO l i (j+1)=i \/ iO l i (j+1) = -1:=by
   intro j
   induction j with
   | zero=>
    cases m with
    | zero=>exact .inr (.inl hc)
    | succ m=>exact .inl (Os (h.eq 0 (by omega)))
   | succ j ih=>
    rcases ih with ih|ih|ih
    .obtain ⟨a,ha⟩:=List.mem_iff_getElem?.1 ih;have ham:a<m:=by rw [<- h.len];exact (Vf.1 ha).1
     rw [h.eq a ham] at ha
     have e:iO l i (j+1+1)=iO l i (a+1+1):=by
      show mD l (iO l i (j+1))=mD l (iO l i (a+1));rw [WD ha]
     rw [e];by_cases ham2:a+1<m
     .exact .inl (Os (h.eq (a+1) ham2))
     .have:a+1=m:=by omega
      rw [this];exact .inr (.inl hc)
    .have e:iO l i (j+1+1)=iO l i 1:=by
      show mD l (iO l i (j+1))=iO l i 1;rw [ih,xq]
     rw [e]
     cases m with
     | zero=>exact .inr (.inl hc)
     | succ m=>exact .inl (Os (h.eq 0 (by omega)))
    .right;right;rw [iO,ih,t3]
  have:=key (j - 1);rw [show j - 1+1=j from by omega,h3] at this;rcases this with this|this|this
  .exact this
  .exact absurd this.symm hne
  .omega
 .have:=Id h hs (.inl hc) (j - 1);rw [show j - 1+1=j from by omega,h3] at this;rcases this with this|this
  .omega
  .exact this
theorem Ko (l:List Int) (i:Int) (hi:jd l i):pQ l i ↔ ∃ j,1<=j /\ j<=l.length /\ iO l i j=i:=by
 obtain ⟨m,p,h,hs⟩:=DI l i;unfold pQ;rw [Iv h];refine ⟨fun hh=>⟨m+1,by omega,?_,hh.2⟩,fun ⟨j,h1,h2,h3⟩=>⟨hi,?_⟩⟩
 .have hnd:(i :: fK l i).Nodup:=List.nodup_cons.2 ⟨h.not,h.nodup⟩
  have:=vi l.length _ hnd (fun x hx=>by
   rcases Wf.1 hx with rfl|hx
   .exact hi
   .exact h.at_ x hx)
  simp [h.len] at this;omega
 .by_cases hc:iO l i (m+1)=i
  .exact hc
  .have:=Id h hs (.inl hc) (j - 1);rw [show j - 1+1=j from by omega,h3] at this;rcases this with this|this
   .have:=hi.1;omega
   .exact absurd this h.not
def kU (l:List Int):Int:=(((List.range l.length).find? fun (i:Nat)=>decide (pQ l (i:Int))).map fun (i:Nat)=>(i:Int)).getD (-1)
def xx (l:List Int) (i:Int):List Int:=if jd l i then (((List.range l.length).filter fun (k:Nat)=>decide ((k:Int) ≠ i /\ i ∈ fK l (k:Int))).map fun (k:Nat)=>(k:Int)) else []
def Nc (l:List Int) (a i:Int):Prop:=∃ j,1<=j /\ j<=l.length /\ 0<=a /\ iO l i j=a
end
section
open Go.ChangeShapes Go.WideShapes Go.ChangeAt Go.RowKit
theorem PU:ownKnob Tryz.prog.godebug=none:=by kernel_rfl
theorem Nn:laidOutB Tryz.prog=true:=by kernel_rfl
theorem NF:Tryz.prog.underlying 4=some .bool:=Tryz.underlying4
theorem np {H:Type} {enc:TypeId × Value -> H} {P:Program} (hl:laidOutB P=true) {W W':World} (hb:Below W.heap.size W W') (sp:Nat -> Bool) :
  ∀ {ts:List TypeId} {vs:List Value} {ds:List (DataW H)} {ps:List MemPlace},(ts.all fun t=>P.readableRec t && decide (t<P.types.size))=true ->
   DataW.TrodAll enc P W 0 (fun _=>true) true ts vs ds ps -> (∀ x ∈ ps,x.block<W.heap.size) -> (∀ p ∈ ps,sp p.block=true) -> DataW.TrodAll enc P W' 0 sp true ts vs ds ps
 | [],[],[],_,_,h,_,_=>h
 | t :: ts,v :: vs,d :: ds,ps,ht,h,hlt,hs=>by
  obtain ⟨p,q,h1,h2,rfl⟩:=h;simp only [List.all_cons,VB,VJ] at ht;refine ⟨p,q,WideElems.Trod_stays hl ht.1.1 ht.1.2 h1 (fun x hx=>hb.same (hlt x (Vs.2 (.inl hx)))) (fun x hx=>hs x (Vs.2 (.inl hx))),?_,rfl⟩;exact np hl hb sp (by simpa using ht.2) h2 (fun x hx=>hlt x (Vs.2 (.inr hx))) (fun x hx=>hs x (Vs.2 (.inr hx)))
 | [],[],_ :: _,_,_,h,_,_=>h.elim
 | [],_ :: _,_,_,_,h,_,_=>h.elim
 | _ :: _,[],_,_,_,h,_,_=>h.elim
 | _ :: _,_ :: _,[],_,_,h,_,_=>h.elim
theorem EY {H:Type} {enc:TypeId × Value -> H} {f:Func} {s:ChangeSpec} {fid:FuncId} {W:World} {args:Array Value} {ds gs:List (DataW H)} {before:List MemPlace}
  (hts:(f.params.toList.all fun t=>Tryz.prog.readableRec t && decide (t<Tryz.prog.types.size))=true) (hrt:f.resultTypes = #[4]) (hsv:s.vars=[])
  (hW:DataW.Whole enc Tryz.prog f.params.toList s.vars false W args.toList ds gs before)
  (hfn:∀ gs',gs'=[] -> s.fn H (ds ++ gs')={ results:=[.lit (.bool true)],args:=ds })
  (hc:Calls Tryz.prog fid args W fun e W'=>e=.returned (.bool true) /\ Below W.heap.size W W') :
  Calls Tryz.prog fid args W fun e W'=>∃ v,e=.returned v /\ s.post enc Tryz.prog f false true false false W args v W':=by
 refine hc.mono fun e W' ⟨he,hb⟩=>⟨_,he,?_⟩;have hW':=hW;obtain ⟨p,q,hA,hV,rfl,hfz,hnd⟩:=hW;rw [hsv] at hV;obtain ⟨rfl,rfl⟩:=trodVars_none hV;have hlt:∀ x ∈ p,x.block<W.heap.size:=fun x hx=>hW'.lt x (Vs.2 (.inl hx));have e1:=hfn [] rfl;refine ⟨ds,[],p ++ [],[],p,[],hW',?_,?_,?_,hb.frame _,fun h=>by cases h⟩
 .rw [e1,hrt];exact trodAll_mk1 (shut_bool NF true)
 .rw [e1];exact np Nn hb _ hts hA hlt (fun x hx=>by simpa using hlt x hx)
 .rw [e1,hsv];rfl
end
section
def RI (w:World) (v:Value) (l:List Int):Prop:=(aJ (fl .i64)).one w (fun b=>b<w.heap.size) v l
theorem RI.below {w w':World} {v:Value} {l:List Int} (h:RI w v l) (hb:Below w.heap.size w w'):RI w' v l:=gQ (fo h hb fun b h=>h) fun b h=>Vn h hb.size
theorem RI.form {w:World} {v:Value} {l:List Int} (h:RI w v l):∃ A c,v=.slice A l.length c /\ l.length<=c:=by
 obtain ⟨A,c,h1,h2,_⟩:=dk h;exact ⟨A,c,h1,h2⟩
theorem RI.at_ {w:World} {A:Option Addr} {n c:Nat} {l:List Int} (h:RI w (.slice A n c) l) {k:Nat} (hk:k<l.length) :
  ∃ b o,A=some ⟨b,o,none⟩ /\ w.cell? ⟨b,o+k,none⟩=some (.int .i64 (l.getD k 0)) /\ -9223372036854775808<=l.getD k 0 /\ l.getD k 0<=9223372036854775807:=by
 obtain ⟨b,o,rfl,hb,_⟩:=dJ h (by omega);have:=OK h hk;rw [List.getD,p0 hk];exact ⟨b,o,rfl,this⟩
theorem O4:(Tryz.prog.info? 3).map (fun i=>(i.zero,i.size,i.bytes))=some (some (.int .i64 0),1,8):=by kernel_rfl
theorem O7 (w:World) (n:Int) (t:TypeId):∀ j u,[Value.int .i64 n][j]? = some u -> (w.alloc (.cells #[.int .i64 n] t)).cell? ((⟨w.heap.size,0,none⟩:Addr).add j)=some u:=mE w [.int .i64 n] t
theorem NL (n:Int):∀ u ∈ [Value.int .i64 n],u.oneCell'=true:=by intro u hu;simp at hu;subst hu;rfl
end
section
theorem yu {w:World} {S:Nat -> Prop} {v:Value} {l:List Int} (h:RT w S v (sI l)) (hS:Gu w S) (hl:∀ x ∈ l,aF x):RI w v l:=by
 obtain ⟨A,cap,rfl,hc,hm,_,hA⟩:=h.sl_inv;refine ⟨A,cap,by simp,by simpa using hc,hm,fun h0=>?_⟩;obtain ⟨b,o,rfl,hb,U,hcell,hr,_⟩:=hA (by simpa using h0);refine ⟨b,o,rfl,hS b hb,fun i hi=>⟨[.int .i64 l[i]],fun j u hu=>?_,rfl,?_⟩⟩
 .have h1:(l.map fun n=>[eI n])[i]? = some [eI l[i]]:=by simp [hi]
  have h2:=hcell i 0 _ _ h1 rfl;have h3:=Gn (hr i 0 _ _ h1 rfl)
  cases j with
  | zero=>
   simp at hu;subst hu;rw [h3] at h2;simpa [fl] using h2
  | succ j=>simp at hu
 .have:=hl _ (Vg hi);exact vk this.1 this.2
theorem zz {vs:Array Value} (h:vs.size=2):∃ a b,vs = #[a,b]:=⟨vs[0],vs[1],by apply Array.ext (by simpa using h);intro i h1 h2;simp at h2;match i with | 0=>rfl | 1=>rfl⟩
theorem aV {r av:AV} {st:aj} (h:r.ren []=av):d9 ⟨r,[],0⟩ st av:=⟨[],List.nodup_nil,h,trivial⟩
theorem AD {l:List (Bool × Int)}:∀ row ∈ l.map yA,∀ av ∈ row,av.plain:=fun row hr av ha=>by
 obtain ⟨n,_,rfl⟩:=Vx.1 hr;simp at ha;rcases ha with rfl|rfl<;>trivial
theorem KT : (Tryz.prog.fieldsOf 151).toList.map (fun f => (f.name, f.type, f.offset)) = [("Mile", 4, 0), ("N", 3, 1)] := by kernel_rfl
theorem Gh (op:BinOp) (hop:op=.eql \/ op=.neq) (a b:Bool × Int):tC Tryz.prog op 151 (.agg #[.bool a.1,.int .i64 a.2]) (.agg #[.bool b.1,.int .i64 b.2]) (.bool (if op matches .eql then (a.1 == b.1 && a.2 == b.2) else !(a.1 == b.1 && a.2 == b.2))):=by
 have ht:=KT
 obtain ⟨f,g,hfs⟩:∃ f g,(Tryz.prog.fieldsOf 151).toList=[f,g]:=by
  generalize (Tryz.prog.fieldsOf 151).toList=l at ht ⊢
  cases l with
  | nil=>simp at ht
  | cons f l=>cases l with
   | nil=>simp at ht
   | cons g l=>cases l with
    | nil=>exact ⟨f,g,rfl⟩
    | cons h l=>simp at ht
 rw [hfs] at ht;simp only [V1,VL,List.cons.injEq,Prod.mk.injEq,and_true] at ht;obtain ⟨⟨h1,h2,h3⟩,h4,h5,h6⟩:=ht;refine vm [(.bool a.1,.bool b.1),(.int .i64 a.2,.int .i64 b.2)] (by kernel_rfl) (by kernel_rfl) (by kernel_rfl) (by rw [hfs];rfl) (fun k f' p hk hp=>?_) (by simp [mr,sw]) hop;rw [hfs] at hk
 match k,hk,hp with
 | 0,hk,hp=>
  cases hk;cases hp;refine ⟨by rw [h1];decide,?_,by rw [h3];rfl,by rw [h3];rfl⟩;rw [h2]
  kernel_rfl
 | 1,hk,hp=>
  cases hk;cases hp;refine ⟨by rw [h4];decide,?_,by rw [h6];rfl,by rw [h6];rfl⟩;rw [h5]
  kernel_rfl
 | k+2,hk,hp=>simp at hk
end
section
theorem ma (op:Int):aC op = -1 \/ aC op=0 \/ aC op=1 \/ aC op=2:=by
 unfold aC;split
 .exact .inr (.inl rfl)
 .split
  .exact .inr (.inr (.inl rfl))
  .split
   .exact .inr (.inr (.inr rfl))
   .exact .inl rfl
theorem mT {d:Nat} {op:Int} {d':Nat}:cD d op=some d' ↔ 0<=aC op /\ aC op<=d /\ (d':Int)=d+1 - aC op:=by
 unfold cD;rcases ma op with h|h|h|h<;>simp only [h]
 .simp
 .simp;omega
 .by_cases h1:1<=d
  .simp [h1];omega
  .simp [h1];omega
 .by_cases h1:2<=d
  .simp [h1];omega
  .simp [h1];omega
theorem QO (a b:List Int):∀ d,bx (a ++ b) d=(bx a d).bind (bx b):=by
 induction a with
 | nil=>intro d;rfl
 | cons x a ih=>intro d;rw [Ww,bx,bx];cases cD d x<;>simp [ih]
theorem wH (ops:List Int) {i:Nat} (h:i<ops.length):bx (ops.take (i+1)) 0=(bx (ops.take i) 0).bind fun d=>cD d ops[i]:=by
 rw [Xp,p0 h,QO]
 congr 1
 funext d
 simp [bx];cases cD d ops[i]<;>rfl
theorem xF {ops:List Int} {i d':Nat} (h:i<ops.length) (hr:bx (ops.take (i+1)) 0=some d'):∃ d,bx (ops.take i) 0=some d /\ 0<=aC ops[i] /\ aC ops[i]<=d /\ (d':Int)=d+1 - aC ops[i]:=by
 rw [wH ops h] at hr
 cases hd:bx (ops.take i) 0 with
 | none=>simp [hd] at hr
 | some d=>
  simp [hd] at hr;exact ⟨d,rfl,mT.1 hr⟩
def kF (ops:List Int):Nat -> Int -> Int
 | 0,_=>-1
 | i+1,want=>if aC (ops.getD i 0)<0 then -1 else if want+(aC (ops.getD i 0) - 1)=0 then (i:Int) else kF ops i (want+(aC (ops.getD i 0) - 1))
theorem xe {ops:List Int} {i:Nat} (h:i<ops.length):ops.getD i 0=ops[i]:=by simp [h]
theorem DP {ops:List Int} {d e:Nat} (hd:1<=d):∀ (i:Nat) (want:Int) (di:Nat),i<=ops.length -> bx (ops.take i) 0=some di -> (di:Int)=d - 1+want -> 1<=want -> (∀ j,i<=j -> j<=e -> ∃ dj,bx (ops.take j) 0=some dj /\ d<=dj) ->
  ∃ b:Nat,b<i /\ kF ops i want=b /\ bx (ops.take b) 0=some (d - 1) /\ ∀ j,b<j -> j<=e -> ∃ dj,bx (ops.take j) 0=some dj /\ d<=dj
 | 0,want,di,_,hr,hdi,hw,_=>by
  simp [bx] at hr;omega
 | i+1,want,di,hi,hr,hdi,hw,hj=>by
  obtain ⟨d0,h0,h1,h2,h3⟩:=xF (by omega) hr;rw [kF,xe (by omega:i<ops.length),Vj (by omega)];by_cases hz:want+(aC ops[i] - 1)=0
  .rw [Vo hz];refine ⟨i,by omega,rfl,by rw [h0];congr 1;omega,fun j h4 h5=>hj j (by omega) h5⟩
  .rw [Vj hz]
   obtain ⟨b,h4,h5,h6,h7⟩:=DP (e:=e) hd i (want+(aC ops[i] - 1)) d0 (by omega) h0 (by omega) (by omega) fun j h4 h5=>by
    rcases Vw i j with h6|h6
    .exact hj j (by omega) h5
    .obtain rfl:i=j:=by omega
     exact ⟨d0,h0,by omega⟩
   exact ⟨b,by omega,h5,h6,h7⟩
theorem IQ {ops:List Int} {i d:Nat} (h:i<ops.length) (hr:bx (ops.take (i+1)) 0=some d):1<=d:=by
 obtain ⟨d0,_,h1,h2,h3⟩:=xF h hr;omega
theorem Ic {ops:List Int} {e d:Nat} (he:e<ops.length) (hr:bx (ops.take (e+1)) 0=some d) :
  ∃ b:Nat,b<=e /\ kF ops (e+1) 1=b /\ bx (ops.take b) 0=some (d - 1) /\ ∀ j,b<j -> j<=e+1 -> ∃ dj,bx (ops.take j) 0=some dj /\ d<=dj:=by
 have hd:=IQ he hr
 obtain ⟨b,h1,h2⟩:=DP (e:=e+1) hd (e+1) 1 d (by omega) hr (by omega) (by omega) fun j h1 h2=>by
  obtain rfl:j=e+1:=by omega
  exact ⟨d,hr,Vh _⟩
 exact ⟨b,by omega,h2⟩
theorem yO (ops:List Int):∀ (i:Nat) (want:Int),i<=ops.length -> 1<=want -> kF ops i want=0 -> bx (ops.take i) 0=some want.toNat
 | 0,want,_,_,h=>by simp [kF] at h
 | i+1,want,hi,hw,h=>by
  have hlt:i<ops.length:=by omega
  rw [kF,xe hlt] at h;split at h
  .omega
  .rename_i h1;rw [wH ops hlt];split at h
   .rename_i h2;obtain rfl:i=0:=by omega
    have h3:aC ops[0]=0 /\ want=1:=by
     rcases ma ops[0] with h|h|h|h<;>omega
    rw [h3.2];simp only [Vu,bx,Wm];rw [mT];omega
   .rename_i h2;rw [yO ops i _ (by omega) (by omega) h,Wm,mT];omega
theorem Mf {ops:List Int} (h0:0<ops.length):kF ops ops.length 1=0 ↔ bx ops 0=some 1:=by
 constructor
 .intro h;have:=yO ops ops.length 1 (Vh _) (by omega) h
  rwa [Vq] at this
 .intro h;have e1:ops.length - 1+1=ops.length:=by omega
  obtain ⟨b,h1,h2,h3,h4⟩:=Ic (ops:=ops) (e:=ops.length - 1) (d:=1) (by omega) (by rw [e1,Vq];exact h);rw [e1] at h2;rw [h2]
  cases b with
  | zero=>rfl
  | succ b=>
   have:=IQ (by omega) h3;omega
section
variable {cm:ah -> Option Int} {o d:Int}
theorem Qv (a b:List ah):∀ r,de cm o d (a ++ b) r=(de cm o d a r).bind (de cm o d b):=by
 induction a with
 | nil=>intro r;rfl
 | cons x a ih=>intro r;rw [Ww,de,de];cases du cm o d x r<;>simp [ih]
theorem Eh (l:List ah) {i:Nat} (h:i<l.length):de cm o d (l.take (i+1)) []=(de cm o d (l.take i) []).bind (du cm o d l[i]):=by
 rw [Xp,p0 h,Qv]
 congr 1
 funext r
 simp [de];cases du cm o d l[i] r<;>rfl
theorem t6 {x:ah} {r r':List Bool} (h:du cm o d x r=some r'):∃ k:Nat,aC x.op=k /\ k<=r.length /\ ∃ v,r'=v :: r.drop k:=by
 unfold du at h;split at h
 .rename_i h1;cases h;exact ⟨0,by unfold aC;rw [Vo (by omega)];rfl,by omega,_,rfl⟩
 .split at h
  .rename_i h1;split at h
   .cases h;exact ⟨0,by unfold aC;rw [Vo (by omega)];rfl,by omega,_,rfl⟩
   .cases h
  .split at h
   .rename_i h1;cases h;exact ⟨0,by unfold aC;rw [Vo (by omega)];rfl,by omega,_,rfl⟩
   .split at h
    .rename_i h1;cases h;exact ⟨0,by unfold aC;rw [Vo (by omega)];rfl,by omega,_,rfl⟩
    .split at h
     .rename_i h1;split at h
      .cases h;exact ⟨1,by unfold aC;rw [Vj (by omega),Vo (by omega)];rfl,by simp,_,rfl⟩
      .cases h
     .split at h
      .rename_i h1;split at h
       .cases h;exact ⟨2,by unfold aC;rw [Vj (by omega),Vj (by omega),Vo (by omega)];rfl,by simp,_,rfl⟩
       .cases h
      .cases h
theorem mK {l:List ah} {i:Nat} {r':List Bool} (h:i<l.length) (hr:de cm o d (l.take (i+1)) []=some r'):∃ r,de cm o d (l.take i) []=some r /\ du cm o d l[i] r=some r':=by
 rw [Eh l h] at hr
 cases hd:de cm o d (l.take i) [] with
 | none=>simp [hd] at hr
 | some r=>
  simp [hd] at hr;exact ⟨r,rfl,hr⟩
theorem tc {l:List ah}:∀ {i:Nat} {r:List Bool},i<=l.length -> de cm o d (l.take i) []=some r -> bx ((l.map ah.op).take i) 0=some r.length
 | 0,r,_,h=>by
  simp [de] at h;subst h;simp [bx]
 | i+1,r,hi,h=>by
  obtain ⟨r0,h1,h2⟩:=mK (by omega) h;have h3:=tc (by omega) h1;obtain ⟨k,h4,h5,v,rfl⟩:=t6 h2;rw [wH _ (by simp;omega),h3,Wm,mT];simp [h4];omega
theorem Ib {l:List ah} {e:Nat} {v:Bool} {r:List Bool} (he:e<l.length) (h:de cm o d (l.take (e+1)) []=some (v :: r)) :
  ∃ b:Nat,b<=e /\ kF (l.map ah.op) (e+1) 1=b /\ de cm o d (l.take b) []=some r:=by
 have hrow:=tc (by omega) h;obtain ⟨b,h1,h2,h3,h4⟩:=Ic (by simpa using he) hrow;refine ⟨b,h1,h2,?_⟩
 have down:∀ k j,j+k=e+1 -> ∃ q,de cm o d (l.take j) []=some q:=by
  intro k
  induction k with
  | zero=>
   intro j hj;obtain rfl:j=e+1:=by omega
   exact ⟨_,h⟩
  | succ k ih=>
   intro j hj;obtain ⟨q,hq⟩:=ih (j+1) (by omega);obtain ⟨q0,hq0,_⟩:=mK (by omega) hq;exact ⟨q0,hq0⟩
 obtain ⟨q,hq⟩:=down (e+1 - b) b (by omega);have hql:=tc (by omega) hq;rw [h3] at hql;have hql:r.length=q.length:=by simpa using hql
 have up:∀ k,b+k<=e+1 -> ∃ t,de cm o d (l.take (b+k)) []=some (t ++ q):=by
  intro k
  induction k with
  | zero=>exact fun _=>⟨[],hq⟩
  | succ k ih=>
   intro hk;obtain ⟨t,ht⟩:=ih (by omega);obtain ⟨r1,hr1⟩:=down (e+1 - (b+k+1)) (b+k+1) (by omega);obtain ⟨r0,h5,h6⟩:=mK (by omega) hr1;rw [ht] at h5;cases h5;obtain ⟨c,h7,h8,v',rfl⟩:=t6 h6;obtain ⟨dj,h9,h10⟩:=h4 (b+k+1) (by omega) (by omega);have h11:=tc (by omega) hr1;rw [h9] at h11;have h11:dj=(t ++ q).length - c+1:=(by simpa using h11);rw [Vk] at h11 h8;simp only [VN] at h10;refine ⟨v' :: t.drop c,?_⟩;rw [show b+(k+1)=b+k+1 by omega,hr1,List.drop_append_of_le_length (by omega)];rfl
 obtain ⟨t,ht⟩:=up (e+1 - b) (by omega);rw [show b+(e+1 - b)=e+1 by omega,h] at ht;have ht:=WD ht
 have htl:t.length=1:=by
  have:=congrArg List.length ht;simp at this;omega
 obtain ⟨v',rfl⟩:∃ v',t=[v']:=by
  match t,htl with
  | [v'],_=>exact ⟨v',rfl⟩
 rw [hq];simp at ht;rw [ht.2]
end
def jw (vals:List Int) (attrs:Bool) (x:ah):Bool:=
 !(decide (18<x.op) || (decide (10<x.op) && decide (x.op<15)) || (attrs && decide (3<=x.op) && decide (x.op<=8) && (!(decide (-1<=x.la) && decide (x.la<vals.length)) || !(decide (-1<=x.ra) && decide (x.ra<vals.length)))))
theorem z7 (vals:List Int) (a n:Int):(tf vals a n).isSome=(decide (-1<=a) && decide (a<vals.length)):=by
 unfold tf;by_cases h1:a = -1
 .subst h1;simp;omega
 .rw [Vj h1];by_cases h2:a<0
  .rw [Vo h2];simp;omega
  .rw [Vj h2];rw [Ws];simp;omega
theorem yP (vals:List Int) (x:ah):(yB vals x).isSome=((decide (-1<=x.la) && decide (x.la<vals.length)) && (decide (-1<=x.ra) && decide (x.ra<vals.length))):=by
 rw [<- z7 vals x.la x.ln,<- z7 vals x.ra x.rn];unfold yB;cases tf vals x.la x.ln<;>cases tf vals x.ra x.rn<;>rfl
theorem MW {s:St} {x:ah} {r:List Bool} (h:jw s.vals true x=true) (h0:0<=aC x.op) (h1:aC x.op<=r.length):∃ r',du (yB s.vals) s.opn s.don x r=some r':=by
 have hc:=yP s.vals x;unfold jw at h;simp only [Xr,Bool.or_eq_false_iff,VW,VA,VX,Bool.not_eq_false'] at h;unfold du;split
 .exact ⟨_,rfl⟩
 .split
  .rename_i h2 h3
   have:(yB s.vals x).isSome=true:=by
    rw [hc,VB];rcases h.2 with h4|h4
    .rcases h4 with h4 | h4<;>simp at h4<;>omega
    .exact h4
   obtain ⟨c,hc⟩:=V4.1 this;rw [hc];exact ⟨_,rfl⟩
  .split
   .exact ⟨_,rfl⟩
   .split
    .exact ⟨_,rfl⟩
    .split
     .rename_i h6;have:aC x.op=1:=by unfold aC;rw [Vj (by omega),Vo (by omega)]
      cases r with
      | nil=>simp at h1;omega
      | cons a r=>exact ⟨_,rfl⟩
     .split
      .rename_i h6;have:aC x.op=2:=by unfold aC;rw [Vj (by omega),Vj (by omega),Vo (by omega)]
       match r with
       | []=>simp at h1;omega
       | [a]=>simp at h1;omega
       | b :: a :: r=>exact ⟨_,rfl⟩
      .rename_i h2 h3 h4 h5 h6 h7;exfalso;have h8:=h.1;unfold aC at h0;split at h0
       .rename_i h9;rcases h8 with ⟨h10,h11⟩;rcases h11 with h11|h11<;>omega
       .split at h0
        .omega
        .split at h0<;>omega
theorem Lx {s:St} {l:List ah} (hl:∀ x ∈ l,jw s.vals true x=true):∀ (i:Nat) (d:Nat),i<=l.length -> bx ((l.map ah.op).take i) 0=some d -> ∃ r,de (yB s.vals) s.opn s.don (l.take i) []=some r /\ r.length=d
 | 0,d,_,h=>by
  simp [bx] at h;exact ⟨[],by simp [de],h⟩
 | i+1,d,hi,h=>by
  have hlt:i<l.length:=by omega
  obtain ⟨d0,h0,h1,h2,h3⟩:=xF (by simpa using hlt) h;obtain ⟨r,h4,h5⟩:=Lx hl i d0 (by omega) h0;simp only [List.getElem_map] at h1 h2 h3;obtain ⟨r',h6⟩:=MW (s:=s) (r:=r) (hl l[i] (Vg hlt)) h1 (by omega);have h7:de (yB s.vals) s.opn s.don (l.take (i+1)) []=some r':=by rw [Eh l hlt,h4,Wm,h6]
  have h8:=tc (by omega) h7;rw [h] at h8;exact ⟨r',h7,(WD h8).symm⟩
theorem Dp {s:St} {l:List ah} {r:List Bool} (h:de (yB s.vals) s.opn s.don l []=some r):∀ x ∈ l,jw s.vals true x=true:=by
 intro x hx;obtain ⟨i,hi,rfl⟩:=VD hx
 have down:∀ k j,j+k=l.length -> ∃ q,de (yB s.vals) s.opn s.don (l.take j) []=some q:=by
  intro k
  induction k with
  | zero=>
   intro j hj;obtain rfl:j=l.length:=by omega
   exact ⟨r,by rw [Vq];exact h⟩
  | succ k ih=>
   intro j hj;obtain ⟨q,hq⟩:=ih (j+1) (by omega);obtain ⟨q0,hq0,_⟩:=mK (by omega) hq;exact ⟨q0,hq0⟩
 obtain ⟨q,hq⟩:=down (l.length - (i+1)) (i+1) (by omega);obtain ⟨q0,_,h2⟩:=mK hi hq;have hc:=yP s.vals l[i];unfold jw;simp only [Xr,Bool.or_eq_false_iff,VW,VA,VX,Bool.not_eq_false'];unfold du at h2;split at h2
 .rename_i h3;exact ⟨⟨by omega,by omega⟩,.inl (by omega)⟩
 .split at h2
  .rename_i h3 h4;split at h2
   .rename_i c hcm;rw [hcm] at hc;simp only [Option.isSome_some] at hc;have hc:=hc.symm;rw [VB] at hc;exact ⟨⟨by omega,by omega⟩,.inr hc⟩
   .cases h2
  .split at h2
   .exact ⟨⟨by omega,by omega⟩,.inl (by omega)⟩
   .split at h2
    .exact ⟨⟨by omega,by omega⟩,.inl (by omega)⟩
    .split at h2
     .exact ⟨⟨by omega,by omega⟩,.inl (by omega)⟩
     .split at h2
      .exact ⟨⟨by omega,by omega⟩,.inl (by omega)⟩
      .cases h2
theorem zr {l:List ah} {s:St} (h1:bf (l.map ah.op)=0) (h2:∀ x ∈ l,jw s.vals true x=true):∃ b,de (yB s.vals) s.opn s.don l []=some [b] /\ jg l s=some b:=by
 have h3:bx (l.map ah.op) 0=some 1:=by
  unfold bf at h1;split at h1
  .cases h1
  .split at h1
   .cases h1
   .split at h1
    .assumption
    .cases h1
 obtain ⟨r,h4,h5⟩:=Lx h2 l.length 1 (Vh _) (by rw [show l.length=(l.map ah.op).length by simp,Vq];exact h3);rw [Vq] at h4
 match r,h5 with
 | [b],_=>
  refine ⟨b,h4,?_⟩;unfold jg fN;rw [Vj (by simp [h1]),h4]
theorem Ar {l:List ah} {s:St} (h:¬ (bf (l.map ah.op)=0 /\ ∀ x ∈ l,jw s.vals true x=true)):jg l s=none:=by
 unfold jg fN;split
 .rfl
 .rename_i h1
  cases hr:de (yB s.vals) s.opn s.don l [] with
  | none=>rfl
  | some r=>exact absurd ⟨by simpa using h1,Dp hr⟩ h
end
section
theorem xk:((2:Int)=0)=False:=by simp
theorem dA (s i:Int) (hs:aF s):aw Tryz.prog 101 [eI s,eI i] (val (.bool (bq s i))):=by
 refine aa ag Tryz.func101 rfl (by decide) Tryz.ntmps101 Tryz.results101 rfl (aI _) ?_
 repeat' first|refine go ?_|decide|refine sp ?_ ?_<;>intro _
 .rename_i h;simp at h;simp [bq];omega
 .rename_i h1 h2;simp at h1 h2;simp [bq];omega
 .rename_i h1 h2;simp at h1 h2;obtain ⟨q,rfl⟩:∃ q:Nat,i=(q:Int):=⟨i.toNat,by omega⟩;have e0:s / 2 ^ 0=s:=by simp
  refine ae (fun st=>∃ k:Nat,k<=q /\ st=⟨31,[(0,eI (s / 2 ^ k)),(1,eI (q:Int)),(5,eI (k:Int))],[],0⟩) (fun st=>q - ap st 5) ⟨_,(wE e0),0,Vd _,rfl⟩ ?_;rintro _ ⟨k,hk,rfl⟩;have hp:(1:Int)<=2 ^ k:=Int.pow_pos (by omega)
  have hd0:-9223372036854775808<=s / 2 ^ k:=by
   refine Int.le_ediv_of_mul_le (by omega) ?_;have:=hs.1;generalize (2:Int) ^ k=p at *;omega
  have hd1:s / 2 ^ k<=9223372036854775807:=by
   by_cases h:s<0
   .have:=Int.ediv_neg_of_neg_of_pos h (by omega:(0:Int)<2 ^ k);omega
   .exact Int.le_trans (Int.ediv_le_self _ (by omega)) hs.2
  have ed:s / 2 ^ (k+1)=s / 2 ^ k / 2:=by
   rw [Int.pow_succ,Int.ediv_ediv_of_nonneg (Int.le_of_lt (Int.pow_pos (by omega)))]
  generalize hx:s / 2 ^ k=x at *;by_cases hxn:x % 2=1 /\ x<0
  .have et:x.tmod 2 = -1:=by
    have h3:x.tmod 2 = -((-x) % 2):=by
     rw [<- Int.tmod_eq_emod_of_nonneg (by omega),Int.neg_tmod];omega
    omega
   have en:decide ((-1:Int)<0)=true:=(by decide);have em:IntKind.i64.wrap (0 - (-1))=1:=(by decide);have ew:IntKind.i64.wrap (x - 1)=x - 1:=aB (by omega) (by omega)
   have eq:(x - 1).tdiv 2=x / 2:=by
    have h3:(2:Int) ∣ x - 1:=⟨x / 2,by omega⟩;rw [Int.tdiv_eq_ediv_of_dvd h3];omega
   by_cases hlt:k<q
   .repeat' first|refine ge (kf @hlt (kf @xk (kf et (kf en (kf em (kf ew eq)))))) ?_|decide|refine sp ?_ ?_<;>intro _
    have ew2:IntKind.i64.wrap (x / 2)=x / 2:=aB (by omega) (by omega);exact rI (wE (kf ed ew2)) ⟨k+1,by omega,rfl⟩
   .obtain rfl:k=q:=by omega
    repeat' first|refine ge (kf @hlt (kf @xk et)) ?_|decide|refine sp ?_ ?_<;>intro _
    have hk31:(k:Int)<31:=(by omega);simp [bq,hx,hk31,hxn.1]
  have et:x.tmod 2=x % 2:=by
   by_cases h:x<0
   .have h0:x % 2=0:=(by omega);rw [h0];exact Int.tmod_eq_zero_of_dvd ⟨x / 2,by omega⟩
   .exact Int.tmod_eq_emod_of_nonneg (by omega)
  have en:decide (x % 2<0)=false:=by simp;omega
  have ew:IntKind.i64.wrap (x - x % 2)=x - x % 2:=aB (by omega) (by omega)
  have eq:(x - x % 2).tdiv 2=x / 2:=by
   have h3:(2:Int) ∣ x - x % 2:=⟨x / 2,by omega⟩;rw [Int.tdiv_eq_ediv_of_dvd h3];omega
  by_cases hlt:k<q
  .repeat' first|refine ge (kf @hlt (kf @xk (kf et (kf en (kf ew eq))))) ?_|decide|refine sp ?_ ?_<;>intro _
   have ew2:IntKind.i64.wrap (x / 2)=x / 2:=aB (by omega) (by omega);exact rI (wE (kf ed ew2)) ⟨k+1,by omega,rfl⟩
  .obtain rfl:k=q:=by omega
   repeat' first|refine ge (kf @hlt (kf @xk et)) ?_|decide|refine sp ?_ ?_<;>intro _
   have hk31:(k:Int)<31:=(by omega);simp [bq,hx,hk31];rcases Int.emod_two_eq x with h|h<;>simp [h]
def lC (f:Nat -> Bool):Nat -> Nat
 | 0=>0
 | k+1=>lC f k+if f k=true then 2 ^ k else 0
theorem kD (f:Nat -> Bool):∀ k,lC f k<2 ^ k
 | 0=>by simp [lC]
 | k+1=>by
  have:=kD f k;unfold lC;rw [Nat.pow_succ];split<;>omega
theorem mB (f:Nat -> Bool):∀ k j,(lC f k).testBit j=(decide (j<k) && f j)
 | 0,j=>by simp [lC]
 | k+1,j=>by
  have hl:=kD f k;unfold lC;split
  .rename_i hf;rw [Nat.add_comm];rcases Xd j k with h|h|h
   .rw [Nat.testBit_two_pow_add_gt h,mB f k j];simp [h,show j<k+1 by omega]
   .subst h;rw [Nat.testBit_two_pow_add_eq,mB f j j];simp [hf]
   .rw [WF,Eq.comm]
    .simp;omega
    .have:2 ^ (k+1)<=2 ^ j:=VU (by omega) h;rw [Nat.pow_succ] at this;omega
  .rename_i hf;rw [XE,mB f k j];rcases Xd j k with h|h|h
   .simp [h,show j<k+1 by omega]
   .subst h;simp [hf]
   .simp [show ¬ j<k by omega,show ¬ j<k+1 by omega]
theorem vB (f:Nat -> Bool) (j:Nat) (hj:j<31):bq (lC f 31:Nat) (j:Int)=f j:=by
 rw [cW _ j hj,tk _ (kD f 31),mB];simp [hj]
theorem Ec {a b:Int} (ha:0<=a /\ a<2147483648) (hb:0<=b /\ b<2147483648) (h:∀ j:Nat,j<31 -> bq a j=bq b j):a=b:=by
 have e1:((lx a:Nat):Int)=a:=by unfold lx;omega
 have e2:((lx b:Nat):Int)=b:=by unfold lx;omega
 rw [<- e1,<- e2]
 congr 1
 apply Xs;intro j;by_cases hj:j<31
 .rw [<- cW a j hj,<- cW b j hj];exact h j hj
 .rw [WF (Vn (gp a) (VU (by omega) (by omega))),WF (Vn (gp b) (VU (by omega) (by omega)))]
abbrev sB (l:List Bool):AV:=.sl 1 (l.map fun b=>[eB b])
def nD (l:List Bool) (k:Nat):Int:=(lC (fun i=>l.getD i false) k:Nat)
def CQ (k:Nat):Int:=(2 ^ k:Nat)
theorem Gr {k:Nat} (hk:k<=31):IntKind.i64.wrap (CQ k * 2)=CQ (k+1):=by
 have h2:2 ^ k<=2 ^ 31:=VU (by omega) hk;unfold CQ;rw [Nat.pow_succ];generalize 2 ^ k=p at *;rw [aB (by omega) (by omega)];simp
theorem Kw {l:List Bool} {k:Nat} (hk:k<=31) (h:l.getD k false=true):IntKind.i64.wrap (nD l k+CQ k)=nD l (k+1):=by
 have h2:2 ^ k<=2 ^ 31:=VU (by omega) hk;have h1:=kD (fun i=>l.getD i false) k;unfold nD CQ;rw [lC,Vo h];generalize lC (fun i=>l.getD i false) k=b at *;generalize 2 ^ k=p at *;rw [aB (by omega) (by omega)];simp
theorem OG {l:List Bool} {k:Nat} (h:l.getD k false=false):nD l k=nD l (k+1):=by
 unfold nD;rw [lC,Vj (by rw [h];simp)];rfl
theorem Jr (l:List Bool) (hl:l.length<=31):aw Tryz.prog 154 [sB l] (val (.int .i64 (nD l l.length))):=by
 refine aa ag Tryz.func154 rfl (by decide) Tryz.ntmps154 Tryz.results154 rfl (aI _) ?_
 repeat' first|refine go ?_|decide|refine sp ?_ ?_<;>intro _
 have e0:nD l 0=0:=rfl;have e1:CQ 0=1:=rfl;refine ae (fun st=>∃ k:Nat,k<=l.length /\ st=⟨22,[(0,sB l),(3,eI (nD l k)),(4,eI (CQ k)),(5,eI (k:Int))],[],0⟩) (fun st=>l.length - ap st 5) ⟨_,(wE (kf e0 e1)),0,Vd _,rfl⟩ ?_;rintro _ ⟨k,hk,rfl⟩;by_cases hlt:k<l.length
 .have ep:=Gr (k:=k) (by omega);have eg:l.getD k false=l[k]:=by simp [hlt]
  repeat' first|refine go ?_|simp only [ab,hlt]|decide|refine sp ?_ ?_<;>intro _
  .rename_i hb;have ew:=Kw (l:=l) (k:=k) (by omega) (by rw [eg];exact hb);exact rI (wE (kf ew ep)) ⟨k+1,by omega,rfl⟩
  .rename_i hb;have ew:=OG (l:=l) (k:=k) (by rw [eg];exact hb);rw [ew];exact rI (wE ep) ⟨k+1,by omega,rfl⟩
 .obtain rfl:k=l.length:=by omega
  repeat' first|refine go ?_|simp only [ab,hlt]|decide|refine sp ?_ ?_<;>intro _
def rx (s:Int):List Bool:=(List.range 31).map fun (i:Nat)=>bq s (i:Int)
theorem Li (s:Int) (hs:aF s):aw Tryz.prog 153 [eI s] (g8 4 1 ((rx s).map fun b=>[eB b])):=by
 refine aa ag Tryz.func153 rfl (by decide) Tryz.ntmps153 Tryz.results153 rfl (ch _ _ _) ?_
 repeat' first|refine go ?_|decide|refine sp ?_ ?_<;>intro _
 have hil:(rx s).length=31:=by simp [rx]
 refine ae (fun st=>∃ k:Nat,k<=31 /\ st=⟨16,[(0,eI s),(3,.osl 0),(4,eI (k:Int))],[(0,some (.row 4 1 (((rx s).take k).map fun b=>[eB b])))],1⟩) (fun st=>31 - ap st 4) ⟨_,((be 3 4 1 (by simp only [iz,aj.get,bb,aj.put,↓reduceIte,reduceCtorEq,Nat.reduceLT,Nat.reduceEqDiff,Nat.reduceAdd,Nat.reduceLeDiff,eq_self,implies_true,Vu])).trans (wS [0] @Vu)),0,Vd _,rfl⟩ ?_;rintro _ ⟨k,hk,rfl⟩;by_cases hlt:k<31
 .have et:((rx s).take (k+1)).map (fun b=>[eB b])=((rx s).take k).map (fun b=>[eB b]) ++ [[eB (bq s (k:Int))]]:=by
   rw [dc (fun b=>[eB b]) (rx s) (show k<(rx s).length by omega)];simp [rx]
  have hkl:((rx s).take k).length=k:=by rw [Vr];omega
  have e1:decide ((k:Int)<31)=true:=by simp;omega
  repeat' first|refine ge e1 ?_|decide|refine sp ?_ ?_<;>intro _
  refine ax (dA s k hs) ?_
  repeat' first|refine ge e1 ?_|decide|refine sp ?_ ?_<;>intro _
  refine ⟨rfl,by omega,rI (wS [2] et) ⟨k+1,by omega,rfl⟩⟩
 .obtain rfl:k=31:=by omega
  have e1:decide (((31:Nat):Int)<31)=false:=by decide
  repeat' first|refine ge e1 ?_|decide|refine sp ?_ ?_<;>intro _
  refine aM ?_;simp [af.gc,VF (Nat.le_of_eq hil)]
theorem MT (s:Int) (i:Int) (b:Bool) (h0:0<=i) (h1:i<31):nD ((rx s).set i.toNat b) 31=if b=true then dN s i else cr s i:=by
 have hr:=kD (fun j=>((rx s).set i.toNat b).getD j false) 31
 have hw:(0:Int)<=(if b=true then dN s i else cr s i) /\ (if b=true then dN s i else cr s i)<2147483648:=by
  split
  .unfold dN;rw [Vo ⟨h0,h1⟩];have:lx s ||| 2 ^ i.toNat<2 ^ 31:=Nat.or_lt_two_pow (gp s) (Nat.pow_lt_pow_right (by omega) (by omega));omega
  .unfold cr;rw [Vo ⟨h0,h1⟩];have:lx s ^^^ (lx s &&& 2 ^ i.toNat)<2 ^ 31:=Nat.xor_lt_two_pow (gp s) (XG Nat.and_le_left (gp s));omega
 unfold nD;refine Ec (by omega) hw fun j hj=>?_;rw [vB _ j hj];have hlen:(rx s).length=31:=by simp [rx]
 have hg:((rx s).set i.toNat b).getD j false=if i.toNat=j then b else bq s (j:Int):=by
  rw [Vm,WJ];split
  .rename_i h;rw [hlen,Vo (by omega)];rfl
  .simp [rx,hj]
 rw [hg];have e1:(decide (0<=i /\ i<31))=true:=by simp [h0,h1]
 split
 .rename_i h;have h2:((j:Int) == i)=true:=by simp;omega
  cases b
  .simp [iZ,h2]
  .simp [vw,e1,h2]
 .rename_i h;have h2:((j:Int) == i)=false:=by simp;omega
  cases b
  .simp [iZ,h2]
  .simp [vw,h2]
theorem sD (s i:Int) (b:Bool) (hs:aF s) (h0:0<=i) (h1:i<31):aw Tryz.prog 120 [eI s,eI i,eB b] (val (.int .i64 (if b=true then dN s i else cr s i))):=by
 refine aa ag Tryz.func120 rfl (by decide) Tryz.ntmps120 Tryz.results120 rfl (aI _) ?_;rw [<- MT s i b h0 h1];have hlen:(rx s).length=31:=by simp [rx]
 obtain ⟨q,rfl⟩:∃ q:Nat,i=(q:Int):=⟨i.toNat,by omega⟩;have e1:decide ((q:Int)<=30)=true:=by simp;omega
 have hq:q<(rx s).length:=by omega
 have jM:∀ row ∈ (rx s).map (fun b=>[eB b]),∀ av ∈ row,av.plain:=fun row hr av ha=>by
  obtain ⟨n,_,rfl⟩:=Vx.1 hr;simp at ha;subst ha;trivial
 have hset:(((rx s).map fun b=>[eB b]).set q [eB b])=((rx s).set q b).map fun b=>[eB b]:=by rw [W8]
 repeat' first|refine ge e1 ?_|decide|refine sp ?_ ?_<;>intro _
 refine cd (Li s hs) (.inr jM) ?_
 repeat' first|refine ge e1 ?_|decide|refine sp ?_ ?_<;>intro _
 have hs':=Jr ((rx s).set q b) (by simp;omega);rw [We,hlen] at hs';refine ⟨by omega,?_⟩
 repeat' first|refine go ?_|simp only [e1,ab,hq]|decide|refine sp ?_ ?_<;>intro _
 rw [hset];refine ax (by exact hs') ?_
 repeat' first|refine go ?_|decide|refine sp ?_ ?_<;>intro _
end
end
end Go.Proofs.YtmmoidfcfjklaaaGreat
