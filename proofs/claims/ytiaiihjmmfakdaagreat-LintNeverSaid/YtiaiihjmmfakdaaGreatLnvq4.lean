/-
  Parts of the proof: Lnvp5, Lnvp6.
-/
import Derived.Test.YtiaiihjmmfakdaaGreatLnvq3
import Derived.RangeFuncLeaves
import Derived.RangeFuncRecord
import Derived.Test.YtiaiihjmmfakdaaGreatProg
import Derived.Laws.StructEq
import Derived.WalkKit
import Derived.WalkLawsBesides
import Derived.ProofKit
import Derived.OpenShut
import Derived.Deep.Slices
import Derived.BigQuiet
import Derived.Deep.QuietTactic
import Derived.Test.YtiaiihjmmfakdaaGreatRows
import Derived.SizedLaws
import Derived.WalkSpells
import Derived.ScopeJumps
import Derived.WalkMore
import Derived.Handy
import Derived.Deep.DeepCutAuto
import Derived.Deep.CutBlock
import Derived.Deep.AppendLies
import Derived.Deep.RegionLaw
import Derived.IntWalk
set_option linter.unusedVariables false
set_option linter.unusedSimpArgs false
set_option linter.defProp false
set_option maxRecDepth 100000
set_option maxHeartbeats 16000000
namespace Go.Proofs.YtiaiihjmmfakdaaGreat
open Go.RowKit
section
section
def du (st:ai) (ren:List Nat):ag -> Prop
 | []=>True
 | (k,o) :: T=>(k<ren.length /\ (∃ e sz rows,o=some (.row e sz rows)) /\ st.tab.get (ren.getD k 0)=o) /\ du st ren T
def cI (R:bS) (st:ai) (av:AV):Prop:=∃ ren:List Nat,ren.Nodup /\ R.r.ren ren=av /\ du st ren R.tab
def dg (P:Program) (st:ai):List ResultVar -> (List AV -> Prop) -> Prop
 | [],K=>K []
 | .tmp t :: l,K=>dg P st l fun avs=>K (st.get t :: avs)
 | .cell p ty :: l,K=>ig P ty st.tab (st.get p) fun av=>dg P st l fun avs=>K (av :: avs)
def lk:List AV -> AV
 | [x]=>x
 | l=>.tup l
def tp (P:Program) (rs:List ResultVar) (Post:bS -> Prop):Exit -> ai -> Prop
 | .normal,st=>dg P st rs fun avs=>∃ R,Post R /\ R.Ok /\ cI R st (lk avs)
 | .ret,st=>dg P st rs fun avs=>∃ R,Post R /\ R.Ok /\ cI R st (lk avs)
 | _,_=>False
def zC (P:Program) (rs:List ResultVar) (R:bS):Exit -> ai -> Prop
 | .normal,st=>dg P st rs fun avs=>cI R st (lk avs)
 | .ret,st=>dg P st rs fun avs=>cI R st (lk avs)
 | _,_=>False
theorem Fs {P:Program} {rs:List ResultVar} {R:bS} {st:ai}:zC P rs R .normal st=dg P st rs fun avs=>cI R st (lk avs):=rfl
theorem GU {P:Program} {rs:List ResultVar} {R:bS} {st:ai}:zC P rs R .ret st=dg P st rs fun avs=>cI R st (lk avs):=rfl
theorem DB {P:Program} {rs:List ResultVar} {Post:bS -> Prop} {st:ai}:tp P rs Post .ret st=dg P st rs fun avs=>∃ R,Post R /\ R.Ok /\ cI R st (lk avs):=rfl
def fR:Nat -> List AV -> List (Nat × AV)
 | _,[]=>[]
 | k,a :: l=>(k,a) :: fR (k+1) l
theorem oc:∀ (l:List AV) (k t:Nat),a7 (fR k l) t=if k<=t then l.getD (t - k) .any else .any
 | [],k,t=>by simp [fR,a7]
 | a :: l,k,t=>by
  simp only [fR,a7];rw [oc l (k+1) t];by_cases h:t=k
  .subst h;simp
  .rw [I4 h];by_cases h2:k<=t
   .rw [I8 (by omega),I8 h2,show t - k=(t - (k+1))+1 by omega];simp
   .rw [I4 (by omega),I4 h2]
section
variable {P:Program} {cx:Cx} {a:Act} {w w':World} {tab:ag} {st:ai} {L:Nat -> Value} {nx:Nat}
theorem sn {ren:List Nat}:∀ {T:ag} {k:Nat} {o:aE},du st ren T -> T.get k=some o -> k<ren.length /\ (∃ e sz rows,o=.row e sz rows) /\ st.tab.get (ren.getD k 0)=some o
 | [],k,o,_,h=>by cases h
 | (j,oo) :: T,k,o,hp,h=>by
  rw [ag.gc] at h;split at h
  .rename_i e;subst e;subst h;obtain ⟨h1,⟨e,sz,rows,h2⟩,h3⟩:=hp.1;cases h2;exact ⟨h1,⟨e,sz,rows,rfl⟩,h3⟩
  .exact sn hp.2 h
theorem m7 {t:TypeId} {v u:Value} (h:(Instr.loadAt t v).run P w=.ok u w):(do loadVar t (<- asAddr v):Sem Value).run P w=.ok u w:=by
 cases v with
 | pointer p=>
  cases p with
  | none=>simp [Instr.loadAt,Instr.sureAddr,Sem.run_bind] at h
  | some ad=>simpa [Instr.loadAt,Instr.sureAddr,asAddr,Sem.run_bind] using h
 | _=>simp [Instr.loadAt,Instr.sureAddr,Sem.run_bind] at h
def p3 (tmps:Array Value):ResultVar -> Sem Value
 | .tmp t=>pure (tmps.getD t undef)
 | .cell p t=>do loadVar t (<- asAddr (tmps.getD p undef))
theorem uv (fn:Func) (tmps:Array Value):results fn tmps=(do
  let vs <- fn.results.mapM (p3 tmps)
  pure (if h:vs.size=1 then vs[0] else .tuple vs)):=by
 unfold results
 congr 1
theorem qC (h:aH cx a w st L):∀ (l:List ResultVar) (K:List AV -> Prop),dg P st l K ->
  ∃ vs avs,K avs /\ vs.length=avs.length /\ (∀ (j:Nat) (v:Value) (av:AV),vs[j]? = some v -> avs[j]? = some av -> bn cx w st.tab L v av) /\
   (l.mapM (p3 a.tmps):Sem (List Value)).run P w=.ok vs w
 | [],K,hp=>⟨[],[],hp,rfl,by simp,by simp⟩
 | .tmp t :: l,K,hp=>by
  obtain ⟨vs,avs,h1,h2,h3,h4⟩:=qC h l _ hp;refine ⟨a.tmps.getD t undef :: vs,st.get t :: avs,h1,by simp [h2],fun j v av h5 h6=>?_,?_⟩
  .cases j with
   | zero=>
    cases h5;cases h6;exact (h.env t).1
   | succ j=>exact h3 j v av (by simpa using h5) (by simpa using h6)
  .simp only [List.mapM_cons,p3,Sem.run_bind,Sem.run_pure,Result.andThen_ok,h4]
 | .cell p ty :: l,K,hp=>by
  obtain ⟨u,au,h1,h2,h3,h4⟩:=(vO (nx:=st.next) h.lay (fun id o hid=>(h.young id o hid).2) (h.env p).1 hp).one;obtain ⟨vs,avs,h5,h6,h7,h8⟩:=qC h l _ h1;refine ⟨u :: vs,au :: avs,h5,by simp [h6],fun j v av h9 h10=>?_,?_⟩
  .cases j with
   | zero=>
    cases h9;cases h10;exact h2
   | succ j=>exact h7 j v av (by simpa using h9) (by simpa using h10)
  .have:=m7 (h4 w (Below.refl _ _));simp only [List.mapM_cons,p3];rw [Sem.run_bind,this];simp only [Sem.run_bind,Sem.run_pure,Result.andThen_ok,h8]
theorem E7 {fn:Func} {K:AV -> Prop} (h:aH cx a w st L) (hp:dg P st fn.results.toList fun avs=>K (lk avs)):∃ v av,K av /\ bn cx w st.tab L v av /\ (results fn a.tmps).run P w=.ok v w:=by
 obtain ⟨vs,avs,h1,h2,h3,h4⟩:=qC h _ _ hp
 have hm:(results fn a.tmps).run P w=.ok (if h:vs.toArray.size=1 then vs.toArray[0] else .tuple vs.toArray) w:=by
  rw [uv,Sem.run_bind,Array.mapM_eq_mapM_toList];simp only [bind_pure_comp,Sem.run_map,h4];rfl
 refine ⟨_,lk avs,h1,?_,hm⟩;clear hm h4 h1
 match vs,avs,h2,h3 with
 | [v],[av],_,h3=>exact h3 0 v av rfl rfl
 | [],[],_,h3=>exact .tup _ _ rfl (by simp)
 | v :: v' :: vs,av :: av' :: avs,h2,h3=>
  simp only [lk,List.size_toArray,Jh];rw [dif_neg (by omega)];exact .tup _ _ (by simpa using h2) fun j x av h4 h5=>h3 j x av (by simpa using h4) h5
end
structure gz (base:Nat) (w w':World):Prop where
 below:Below base w w'
 size:w'.heap.size=w.heap.size
 cell:∀ p,w'.cell? p=w.cell? p
 cells:∀ (k:Nat) cs t x,w.heap[k]? = some (Obj.cells cs t x) -> w'.heap[k]? = some (Obj.cells cs t x)
 maps:∀ (k:Nat) es c,w.heap[k]? = some (Obj.map es c) -> w'.heap[k]? = some (Obj.map es c)
theorem gz.refl (base:Nat) (w:World):gz base w w:=⟨Below.refl _ _,rfl,fun _=>rfl,fun _ _ _ _ h=>h,fun _ _ _ h=>h⟩
theorem gz.trans {base:Nat} {w w' w'':World} (h:gz base w w') (k:gz base w' w''):gz base w w'':=
 ⟨h.below.trans k.below,k.size.trans h.size,fun p=>(k.cell p).trans (h.cell p),fun b cs t x hb=>k.cells b cs t x (h.cells b cs t x hb),fun b es c hb=>k.maps b es c (h.maps b es c hb)⟩
theorem gz.put {base k:Nat} {w:World} {o:Option (List Deferred)} (hk:base<=k) (h:w.heap[k]? = some (.deferred o)) (o':Option (List Deferred)):gz base w (w.putObj k (.deferred o')):=by
 have hother:∀ j,j ≠ k -> (w.putObj k (.deferred o')).heap[j]? = w.heap[j]?:=fun j hj=>World.putObj_heap_other hj;have hlt:k<w.heap.size:=(Jj.1 h).1;refine ⟨⟨rfl,rfl,rfl,by simp,fun j hj=>hother j (by omega)⟩,by simp,fun p=>?_,fun j cs t x hj=>?_,fun j es c hj=>?_⟩
 .by_cases e:p.block=k
  .have h1:(w.putObj k (.deferred o')).heap[p.block]? = some (.deferred o'):=by rw [e];exact World.putObj_heap_same hlt
   have h2:w.heap[p.block]? = some (.deferred o):=by rw [e];exact h
   unfold World.cell?;rw [h1,h2]
  .exact World.cell?_of_block (hother p.block e)
 .by_cases e:j=k
  .rw [e,h] at hj;cases hj
  .rw [hother j e];exact hj
 .by_cases e:j=k
  .rw [e,h] at hj;cases hj
  .rw [hother j e];exact hj
section
variable {cx:Cx} {a:Act} {w w':World} {st:ai} {L:Nat -> Value}
theorem yD (h:aH cx a w st L) (hk:gz cx.w0.heap.size w w') {ds:List Deferred} (hm:jp cx.w0.heap.size w' (Sx cx w' st.tab L) ds):aH cx { a with defers:=ds } w' st L:=by
 have hS:∀ b,Sx cx w st.tab L b -> Sx cx w' st.tab L b:=fun b hb=>⟨by rw [hk.size];exact hb.1,hb.2.1,hb.2.2⟩;have hrv:∀ {x av nx},bn cx w st.tab L x av -> av.lt nx -> bn cx w' st.tab L x av:=fun hr hl=>hr.mono hl (fun p _=>hk.cell p) hS (fun _ _ _ h=>h);refine ⟨⟨h.lay.below.trans (jR hk.below),fun id o hid=>?_,h.lay.sep,fun b hb=>⟨by rw [hk.size];exact (h.lay.ex b hb).1,(h.lay.ex b hb).2⟩⟩,h.size,hm,h.young,fun t=>⟨hrv (h.env t).1 (h.env t).2,(h.env t).2⟩⟩;have ho:=h.lay.objs id o hid;have hy:=(h.young id o hid).2
 cases o with
 | box t cells=>
  obtain ⟨g,cs,h1,h2,h3,h4,h5⟩:=ho;exact ⟨g,cs,h1,h2,hk.cells _ _ _ _ h3,h4,fun j x av h6 h7=>⟨hrv (h5 j x av h6 h7).1 (ah.1 hy _ (p0 h7)),(h5 j x av h6 h7).2⟩⟩
 | row e sz rows=>
  obtain ⟨h1,xs,hown,h2,h3⟩:=ho;refine ⟨h1,xs,⟨hown.1,?_⟩,h2,fun i j row av ha hb=>?_⟩
  .rcases hown.2 with hn | ⟨g,cap,cur,h4,hb,hh,rest⟩
   .exact .inl hn
   .exact .inr ⟨g,cap,cur,h4,hb,hk.cells _ _ _ _ hh,rest⟩
  .obtain ⟨x,hx,hr⟩:=h3 i j row av ha hb;exact ⟨x,hx,hr.mono (fun p _=>hk.cell p) hS⟩
 | map ents=>
  obtain ⟨b,es,ck,h1,h2,h3,h4⟩:=ho;exact ⟨b,es,ck,h1,h2,hk.maps _ _ _ h3,h4⟩
 | nest e sz rows=>
  obtain ⟨h1,xs,hown,h2,h3⟩:=ho;refine ⟨h1,xs,⟨hown.1,?_⟩,h2,fun i j row av ha hb=>?_⟩
  .rcases hown.2 with hn | ⟨g,cap,cur,h4,hb,hh,rest⟩
   .exact .inl hn
   .exact .inr ⟨g,cap,cur,h4,hb,hk.cells _ _ _ _ hh,rest⟩
  .obtain ⟨x,hx,hr⟩:=h3 i j row av ha hb;exact ⟨x,hx,hrv hr (ah.1 (hy row (p0 ha)) _ (p0 hb))⟩
 | ghost vs env=>exact ⟨ho.1,fun t ht=>hrv (ho.2 t ht) (fB hy t)⟩
end
theorem t6 {cx:Cx} {a:Act} {w w':World} {st:ai} {L:Nat -> Value} (h:aH cx a w st L) (hk:gz cx.w0.heap.size w w'):aH cx { a with defers:=[] } w' st L:=yD h hk (jp.nil _ _ _)
theorem kP {P:Program} {fn:Func} {tmps:Array Value} {R:Ending -> World -> Prop} {base:Nat} {S:Nat -> Prop}:∀ (ds:List Deferred) (w:World),jp base w S ds -> (∀ w',gz base w w' -> LeavesIn Fence.wide 0 P fn tmps R [] .returning w') -> LeavesInM Fence.wide 0 P fn tmps R ds .returning w
 | [],w,_,h=>h w (gz.refl _ _)
 | d :: ds,w,hm,h=>by
  obtain ⟨k,rfl,h1,h2,h3⟩:=hm.2 d (J2 ..);have hk:=gz.put h1 h2 none;refine ⟨by simp,.inl ⟨k,_,rfl,run_takeDeferred h2,kP (S:=S) ds _ ⟨(List.nodup_cons.1 hm.1).2,fun d' hd'=>?_⟩ fun w' hw'=>h w' (hk.trans hw')⟩⟩;obtain ⟨k',rfl,h4,h5,h6⟩:=hm.2 d' (J0 _ hd');refine ⟨k',rfl,h4,?_,h6⟩;have hne:k' ≠ k:=fun e=>(List.nodup_cons.1 hm.1).1 (by rw [<- e];exact hd');rw [World.putObj_heap_other hne];exact h5
theorem jP {P : Program} {f : FuncId} {fn : Func} {c : Code} (hf : P.funcs[f]? = some fn) (hb : fn.body = some c) (hname : (fn.name == "runtime.NumGoroutine") = false) {args : List AV} {Post : bS → Prop} {n : Nat} (hnt : fn.ntmps = n) {rs : List ResultVar} (hrs : fn.results = rs.toArray) (hn : Nat.ble args.length n = true)
  (h:∀ (cx:Cx) (a:Act) (w:World) (L:Nat -> Value),aH cx a w ⟨n,fR 0 args,[],0⟩ L -> c.wp P (lb cx (tp P rs Post)) a w):bh P f args Post:=by
 have hn:=Nat.le_of_ble_eq_true hn;subst hnt;have hrs:fn.results.toList=rs:=by rw [hrs]
 refine ⟨fun vs w=>?_,fun S w vs hS hvs hv=>?_⟩
 ·have : ¬ fn.name = "runtime.NumGoroutine" := by simpa using hname
  simp [callFunc,Sem.run_bind,hf,this,hb]
 .let cx:Cx:=(Cx.mk0 S w hS)
  refine (callsIn_wide (n:=0)).1 (callsIn_of_wp_marks hf hb trivial (wpIn_wide.2 ?_));have hL:fZ cx w [] (fun _=>undef):=⟨jR (Below.refl _ _),fun id o h=>(by cases h),fun id id' o o' g h=>(by cases h),fun b hb=>hb.elim⟩
  have hC:aH cx { tmps:=vs ++ Array.replicate (fn.ntmps - vs.size) undef,defers:=[] } w ⟨fn.ntmps,fR 0 args,[],0⟩ (fun _=>undef):=by
   refine ⟨hL,?_,jp.nil _ _ _,fun id o h=>(by cases h),fun t=>?_⟩
   .simp;omega
   have e:(⟨fn.ntmps,fR 0 args,[],0⟩:ai).get t=args.getD t .any:=by
    show (if t<fn.ntmps then a7 (fR 0 args) t else .any)=_;rw [oc];split
    .simp
    .simp [List.getD,Jq (show args.length<=t by omega)]
   rw [e];by_cases ht:t<args.length
   .have ht':t<vs.size:=by omega
    have e2:(vs ++ Array.replicate (fn.ntmps - vs.size) undef).getD t undef=vs[t]:=by
     rw [Kj,Array.getElem?_append_left ht',IX ht'];rfl
    have e3:args.getD t .any=args[t]:=(by simp [List.getD,ht]);rw [e2,e3];have:=hv t _ _ (IX ht') (IU ht);exact ⟨.tree (this.mono (fun _ _=>rfl) fun b hb=>⟨hS b hb,⟨.inl hb,fun h=>h⟩,fun id o h=>by cases h⟩),this.lt 0⟩
   .have e3:args.getD t .any=.any:=(by simp [List.getD,Jq (Nat.le_of_not_lt ht)]);rw [e3];exact ⟨.tree (.any _),trivial⟩
  refine Code.wp_mono (fun e a w' ⟨st,L,h1,h2⟩=>?_) (h cx _ w _ hC);rw [<- hrs] at h1
  have key:(dg P st fn.results.toList fun avs=>∃ R,Post R /\ R.Ok /\ cI R st (lk avs)) -> LeavesInM Fence.wide 0 P fn a.tmps (fun e w'=>∃ v' L R,Post R /\ R.Ok /\ e=.returned v' /\ fZ cx w' R.tab L /\ bn cx w' R.tab L v' R.r) a.defers .returning w':=fun h1=>by
   refine kP _ _ h2.defers fun w2 hk2=>?_;have h2:=t6 h2 hk2;clear hk2;generalize w2=w' at h2;obtain ⟨v,av,⟨R,hPost,hok,ren,hnd,hr,ht⟩,h4,h5⟩:=E7 (K:=fun av=>∃ R,Post R /\ R.Ok /\ cI R st av) h2 h1;refine ⟨v,h5,v,fun k=>L (ren.getD k 0),R,hPost,hok,rfl,?_⟩;subst hr;have hget:=fun k o=>sn (st:=st) (T:=R.tab) (k:=k) (o:=o) ht;have hsub:∀ b,Sx cx w' st.tab L b -> Sx cx w' R.tab (fun k=>L (ren.getD k 0)) b:=fun b hb=>⟨hb.1,hb.2.1,fun k o hk=>hb.2.2 _ o (hget k o hk).2.2⟩;refine ⟨⟨h2.lay.below,fun k o hk=>?_,fun k k' o o' g h6 h7 h8 h9=>?_,fun b hb=>hb.elim⟩,lr hsub (fun k p hk=>?_) _ _ h4⟩
   .obtain ⟨h6,⟨e,sz,rows,rfl⟩,h7⟩:=hget k o hk;obtain ⟨h8,xs,h9,h10,h11⟩:=h2.lay.objs _ _ h7;refine ⟨h8,xs,h9,h10,fun i j row av h12 h13=>?_⟩;obtain ⟨x,hx,hrt⟩:=h11 i j row av h12 h13;exact ⟨x,hx,hrt.mono (fun _ _=>rfl) hsub⟩
   .obtain ⟨ha,_,hb⟩:=hget k o h6;obtain ⟨ha',_,hb'⟩:=hget k' o' h7;have:=h2.lay.sep _ _ o o' g hb hb' h8 h9;simp only [List.getD,IU ha,IU ha',Ju] at this;have hp:=Kz.1 hnd;rcases Ko k k' with hlt|he|hlt
    .exact absurd this (hp k k' ha ha' hlt)
    .exact he
    .exact absurd this.symm (hp k' k ha' ha hlt)
   .unfold Kx at *
    cases ho:R.tab.get k with
    | none=>simp [ho] at hk
    | some o=>
     rw [(hget k o ho).2.2];simpa [ho] using hk
  cases e with
  | normal=>exact key h1
  | ret=>exact key h1
  | _=>exact h1.elim
theorem iR {P:Program} {st:ai}:∀ {l:List ResultVar} {K K':List AV -> Prop},(∀ avs,K avs -> K' avs) -> dg P st l K -> dg P st l K'
 | [],K,K',h,hp=>h _ hp
 | .tmp t :: l,K,K',h,hp=>iR (l:=l) (fun avs h2=>h _ h2) hp
 | .cell p ty :: l,K,K',h,hp=>by
  have step:∀ av,(dg P st l fun avs=>K (av :: avs)) -> dg P st l fun avs=>K' (av :: avs):=fun av=>iR (l:=l) (fun avs h2=>h _ h2)
  have take:∀ cs,kn P ty cs (fun av=>dg P st l fun avs=>K (av :: avs)) -> kn P ty cs (fun av=>dg P st l fun avs=>K' (av :: avs)):=fun cs ⟨h1,h2,h3⟩=>⟨h1,h2,by
   split at h3
   .rw [I8 (by assumption)];exact step _ h3
   .rw [I4 (by assumption)];exact step _ h3⟩
  unfold dg ig at hp ⊢;split at hp
  .exact take _ hp
  .split at hp
   .rename_i h0
    first|simp only [h0]|skip
    exact ⟨hp.1,take _ hp.2⟩
   .rename_i h0
    first|simp only [h0]|skip
    exact ⟨hp.1,take _ hp.2⟩
   .rename_i h0
    first|simp only [h0]|skip
    exact ⟨hp.1,take _ hp.2⟩
   .exact hp.elim
  .exact hp.elim
theorem EA {P:Program} {rs:List ResultVar} {R:bS} (hok:R.Ok) (e:Exit) (st:ai) (h:zC P rs R e st):tp P rs (fun R'=>R'=R) e st:=by
 cases e with
 | normal=>exact iR (fun avs h=>⟨R,rfl,hok,h⟩) h
 | ret=>exact iR (fun avs h=>⟨R,rfl,hok,h⟩) h
 | _=>exact h.elim
theorem uG {P : Program} {f : FuncId} {fn : Func} {c : Code} (hf : P.funcs[f]? = some fn) (hb : fn.body = some c) (hname : (fn.name == "runtime.NumGoroutine") = false) {args : List AV} {R : bS} {n : Nat} (hnt : fn.ntmps = n) {rs : List ResultVar} (hrs : fn.results = rs.toArray) (hn : Nat.ble args.length n = true)
  (hok:R.Ok) (h:∀ (cx:Cx) (a:Act) (w:World) (L:Nat -> Value),aH cx a w ⟨n,fR 0 args,[],0⟩ L -> c.wp P (lb cx (zC P rs R)) a w):ap P f args R:=
 jP hf hb hname hnt hrs hn fun cx a w L hc=>Code.wp_mono (fun e a w ⟨st,L,h1,h2⟩=>⟨st,L,EA hok e st h1,h2⟩) (h cx a w L hc)
theorem ay {P : Program} (hm : P.follows .mixedOrders = true) {f : FuncId} {fn : Func} {c : Code} (hf : P.funcs[f]? = some fn) (hb : fn.body = some c) (hname : (fn.name == "runtime.NumGoroutine") = false) {args : List AV} {Post : bS → Prop} {n : Nat} (hnt : fn.ntmps = n) {rs : List ResultVar} (hrs : fn.results = rs.toArray) (hn : Nat.ble args.length n = true)
  (h:bB P c (tp P rs Post) ⟨n,fR 0 args,[],0⟩):bh P f args Post:=
 jP hf hb hname hnt hrs hn fun cx a w L hc=>p6 hm c _ a w _ L hc h
theorem aa {P : Program} (hm : P.follows .mixedOrders = true) {f : FuncId} {fn : Func} {c : Code} (hf : P.funcs[f]? = some fn) (hb : fn.body = some c) (hname : (fn.name == "runtime.NumGoroutine") = false) {args : List AV} {R : bS} {n : Nat} (hnt : fn.ntmps = n) {rs : List ResultVar} (hrs : fn.results = rs.toArray) (hn : Nat.ble args.length n = true)
  (hok:R.Ok) (h:bB P c (zC P rs R) ⟨n,fR 0 args,[],0⟩):ap P f args R:=
 uG hf hb hname hnt hrs hn hok fun cx a w L hc=>p6 hm c _ a w _ L hc h
end
section
def ik (st:ai):List (Nat × AV) -> Prop
 | []=>True
 | (t,av) :: l=>st.get t=av /\ ik st l
def il (st:ai):ag -> Prop
 | []=>True
 | (id,o) :: l=>st.tab.get id=o /\ il st l
def cd (nx:Nat):ag -> Prop
 | []=>True
 | (id,some o) :: l=>(id<nx /\ o.lt nx) /\ cd nx l
 | (_,none) :: l=>cd nx l
theorem pC {st:ai} {nx:Nat}:∀ {l:List (Nat × AV)} (t:Nat),ik st l -> cb nx l -> (a7 l t=st.get t \/ a7 l t=.any) /\ (a7 l t).lt nx
 | [],t,_,_=>⟨.inr rfl,trivial⟩
 | (k,av) :: l,t,h,hl=>by
  unfold a7;split
  .rename_i e;rw [e];exact ⟨.inl h.1.symm,hl.1⟩
  .exact pC t h.2 hl.2
theorem iY {st:ai} {nx:Nat}:∀ {l:ag} {id:Nat} {o:aE},il st l -> cd nx l -> l.get id=some o -> st.tab.get id=some o /\ id<nx /\ o.lt nx
 | [],id,o,_,_,h=>by cases h
 | (k,oo) :: l,id,o,h,hl,hg=>by
  rw [ag.gc] at hg;split at hg
  .rename_i e;subst e;subst hg;exact ⟨h.1,hl.1.1,hl.1.2⟩
  .cases oo with
   | none=>exact iY h.2 hl hg
   | some=>exact iY h.2 hl.2 hg
theorem zP {st:ai} {n nx:Nat} {env:List (Nat × AV)} {tab:ag} (hn:st.n=n) (he:ik st env) (ht:il st tab) (hl:cb nx env) (hl2:cd nx tab):dw st ⟨n,env,tab,nx⟩:=by
 intro cx a w L h;have hsub:∀ id o,tab.get id=some o -> st.tab.get id=some o:=fun id o hid=>(iY ht hl2 hid).1;have hS:∀ b,Sx cx w st.tab L b -> Sx cx w tab L b:=fun b hb=>⟨hb.1,hb.2.1,fun id o hid=>hb.2.2 id o (hsub id o hid)⟩
 have hK:∀ id p,Kx tab L id=some p -> Kx st.tab L id=some p:=fun id p hk=>by
  unfold Kx at *
  cases ho:tab.get id with
  | none=>simp [ho] at hk
  | some o=>rw [hsub id o ho];simpa [ho] using hk
 have hrv:∀ x av,bn cx w st.tab L x av -> bn cx w tab L x av:=fun x av hr=>by
  have:∀ nx',av.lt nx' -> bn cx w tab L x av:=fun nx' hlt=>hr.mono hlt (fun _ _=>rfl) hS (fun id p _ hk=>hK id p hk)
  induction hr with
  | tree h=>exact .tree (h.mono (fun _ _=>rfl) hS)
  | osl x id h=>exact .osl x id fun sz v e=>h sz v (hK id _ e)
  | op x id i j h=>exact .op x id i j fun sz v e=>h sz v (hK id _ e)
  | agg xs cs hn hr ih=>exact .agg xs cs hn fun j x av h1 h2=>ih j x av h1 h2 fun nx' hlt=>(hr j x av h1 h2).mono hlt (fun _ _=>rfl) hS (fun id p _ hk=>hK id p hk)
  | tup xs cs hn hr ih=>exact .tup xs cs hn fun j x av h1 h2=>ih j x av h1 h2 fun nx' hlt=>(hr j x av h1 h2).mono hlt (fun _ _=>rfl) hS (fun id p _ hk=>hK id p hk)
  | fn fi xs cs hn hr ih=>exact .fn fi xs cs hn fun j x av h1 h2=>ih j x av h1 h2 fun nx' hlt=>(hr j x av h1 h2).mono hlt (fun _ _=>rfl) hS (fun id p _ hk=>hK id p hk)
  | bfn fi xs cs hn hr ih=>exact .bfn fi xs cs hn fun j x av h1 h2=>ih j x av h1 h2 fun nx' hlt=>(hr j x av h1 h2).mono hlt (fun _ _=>rfl) hS (fun id p _ hk=>hK id p hk)
 refine ⟨L,⟨⟨h.lay.below,fun id o hid=>?_,fun id id' o o' g h1 h2=>h.lay.sep id id' o o' g (hsub id o h1) (hsub id' o' h2),fun b hb=>⟨(h.lay.ex b hb).1,fun id o hid=>(h.lay.ex b hb).2 id o (hsub id o hid)⟩⟩,h.size.trans hn,h.defers.mono (fun _ _=>rfl) hS,fun id o hid=>(iY ht hl2 hid).2,fun t=>?_⟩,hS⟩
 .have ho:=h.lay.objs id o (hsub id o hid);have hext:iu cx w st.tab L 0 w tab L:=⟨fun _ _=>rfl,hS,fun id p hlt=>by omega⟩
  cases o with
  | box t cells=>
   obtain ⟨g,cs,h1,h2,h3,h4,h5⟩:=ho;exact ⟨g,cs,h1,h2,h3,h4,fun j x av h6 h7=>⟨hrv x av (h5 j x av h6 h7).1,(h5 j x av h6 h7).2⟩⟩
  | row e sz rows=>
   obtain ⟨h1,xs,h2,h3,h4⟩:=ho;refine ⟨h1,xs,h2,h3,fun i j row av h5 h6=>?_⟩;obtain ⟨x,hx,hr⟩:=h4 i j row av h5 h6;exact ⟨x,hx,hext.rt hr⟩
  | map ents=>exact ho
  | nest e sz rows=>
   obtain ⟨h1,xs,h2,h3,h4⟩:=ho;refine ⟨h1,xs,h2,h3,fun i j row av h5 h6=>?_⟩;obtain ⟨x,hx,hr⟩:=h4 i j row av h5 h6;exact ⟨x,hx,hrv x av hr⟩
  | ghost vs env=>exact ⟨ho.1,fun t ht=>hrv _ _ (ho.2 t ht)⟩
 .obtain ⟨h1,h2⟩:=pC t he hl;show bn cx w tab L _ (if t<n then a7 env t else .any) /\ (if t<n then a7 env t else .any).lt nx;split
  case isFalse=>exact ⟨.tree (.any _),trivial⟩
  refine ⟨?_,h2⟩;rcases h1 with h1|h1
  .rw [h1];exact hrv _ _ (h.env t).1
  .rw [h1];exact .tree (.any _)
theorem dw.trans {st st' st'':ai} (h:dw st st') (h2:dw st' st''):dw st st'':=fun cx a w L hc=>(h cx a w L hc).elim fun L' hc'=>(h2 cx a w L' hc'.1).elim fun L2 h3=>⟨L2,h3.1,fun b hb=>h3.2 b (hc'.2 b hb)⟩
def pW (l:List Nat):List (Nat × AV) -> List (Nat × AV)
 | []=>[]
 | (t,av) :: r=>(t,av.ren l) :: pW l r
theorem ni (l:List Nat):∀ (r:List (Nat × AV)) (t:Nat),a7 (pW l r) t=(a7 r t).ren l
 | [],t=>rfl
 | (q,av) :: r,t=>by
  unfold pW a7;split
  .rfl
  .exact ni l r t
def aE.ren (l:List Nat):aE -> aE
 | .box t cells=>.box t (AV.renL l cells)
 | .row e sz rows=>.row e sz rows
 | .nest e sz rows=>.nest e sz (rows.map (AV.renL l))
 | .map ents=>.map ents
 | .ghost vs env=>.ghost vs (pW l env)
theorem aE.ren_sz (l:List Nat) (o:aE):(o.ren l).sz=o.sz:=by cases o<;>simp [aE.ren,aE.sz,aX]
def fV (st:ai) (ids:List Nat):List (Nat × AV) -> Prop
 | []=>True
 | (t,av) :: l=>st.get t=av.ren ids /\ fV st ids l
def fy (st:ai) (ids:List Nat):ag -> Prop
 | []=>True
 | (id,some o) :: l=>(id<ids.length /\ st.tab.get (ids.getD id 0)=some (o.ren ids)) /\ fy st ids l
 | (_,none) :: l=>fy st ids l
theorem nB {st:ai} {ids:List Nat} {nx:Nat}:∀ {l:List (Nat × AV)} (t:Nat),fV st ids l -> cb nx l -> ((a7 l t).ren ids=st.get t \/ a7 l t=.any) /\ (a7 l t).lt nx
 | [],t,_,_=>⟨.inr rfl,trivial⟩
 | (k,av) :: l,t,h,hl=>by
  unfold a7;split
  .rename_i e;rw [e];exact ⟨.inl h.1.symm,hl.1⟩
  .exact nB t h.2 hl.2
theorem gI {st:ai} {ids:List Nat} {nx:Nat}:∀ {l:ag} {id:Nat} {o:aE},fy st ids l -> cd nx l -> l.get id=some o -> (id<ids.length /\ st.tab.get (ids.getD id 0)=some (o.ren ids)) /\ id<nx /\ o.lt nx
 | [],id,o,_,_,h=>by cases h
 | (k,some oo) :: l,id,o,h,hl,hg=>by
  rw [ag.gc] at hg;split at hg
  .rename_i e;subst e;cases hg;exact ⟨h.1,hl.1.1,hl.1.2⟩
  .exact gI h.2 hl.2 hg
 | (k,none) :: l,id,o,h,hl,hg=>by
  rw [ag.gc] at hg;split at hg
  .cases hg
  .exact gI (l:=l) h hl hg
theorem Ai {st:ai} {n nx:Nat} {env:List (Nat × AV)} {tab:ag} (ids:List Nat) (hnd:ids.Nodup) (hn:st.n=n) (he:fV st ids env) (ht:fy st ids tab) (hl:cb nx env) (hl2:cd nx tab):dw st ⟨n,env,tab,nx⟩:=by
 intro cx a w L h;have hget:∀ k o,tab.get k=some o -> k<ids.length /\ st.tab.get (ids.getD k 0)=some (o.ren ids):=fun k o hk=>(gI ht hl2 hk).1;have hS:∀ b,Sx cx w st.tab L b -> Sx cx w tab (fun k=>L (ids.getD k 0)) b:=fun b hb=>⟨hb.1,hb.2.1,fun k o hk=>hb.2.2 _ _ (hget k o hk).2⟩
 have hK:∀ k p,Kx tab (fun k=>L (ids.getD k 0)) k=some p -> Kx st.tab L (ids.getD k 0)=some p:=fun k p hk=>by
  unfold Kx at *
  cases ho:tab.get k with
  | none=>simp [ho] at hk
  | some o=>
   rw [(hget k o ho).2];simpa [ho,aE.ren_sz] using hk
 refine ⟨fun k=>L (ids.getD k 0),⟨⟨h.lay.below,fun k o hk=>?_,fun k k' o o' g h6 h7 h8 h9=>?_,fun b hb=>⟨(h.lay.ex b hb).1,fun k o hk=>(h.lay.ex b hb).2 _ _ (hget k o hk).2⟩⟩,h.size.trans hn,h.defers.mono (fun _ _=>rfl) hS,fun id o hid=>(gI ht hl2 hid).2,fun t=>?_⟩,hS⟩
 .obtain ⟨_,h7⟩:=hget k o hk;have ho:=h.lay.objs _ _ h7
  cases o with
  | box t cells=>
   obtain ⟨g,cs,h1,h2,h3,h4,h5⟩:=ho;refine ⟨g,cs,h1,h2,h3,by simpa [aX] using h4,fun j x av h6 h8=>?_⟩;have h9:=h5 j x (av.ren ids) h6 (by rw [aX,IW,h8];rfl);exact ⟨lr hS hK av x h9.1,h9.2⟩
  | row e sz rows=>
   obtain ⟨h1,xs,h2,h3,h4⟩:=ho;refine ⟨h1,xs,h2,h3,fun i j row av h5 h6=>?_⟩;obtain ⟨x,hx,hr⟩:=h4 i j row av h5 h6;exact ⟨x,hx,hr.mono (fun _ _=>rfl) hS⟩
  | map ents=>exact ho
  | nest e sz rows=>
   obtain ⟨h1,xs,h2,h3,h4⟩:=ho;refine ⟨fun row hr=>by simpa [aX] using h1 (AV.renL ids row) (I7.2 ⟨row,hr,rfl⟩),xs,by simpa using h2,h3,fun i j row av h5 h6=>?_⟩;obtain ⟨x,hx,hr⟩:=h4 i j (AV.renL ids row) (av.ren ids) (by rw [IW,h5];rfl) (by rw [aX,IW,h6];rfl);exact ⟨x,hx,lr hS hK _ _ hr⟩
  | ghost vs env=>
   refine ⟨ho.1,fun t ht=>lr hS hK _ _ ?_⟩;have h9:=ho.2 t ht
   rwa [ni] at h9
 .obtain ⟨ha,hb⟩:=hget k o h6;obtain ⟨ha',hb'⟩:=hget k' o' h7;have:=h.lay.sep _ _ _ _ g hb hb' h8 h9;simp only [List.getD,IU ha,IU ha',Ju] at this;have hp:=Kz.1 hnd;rcases Ko k k' with hlt|he|hlt
  .exact absurd this (hp k k' ha ha' hlt)
  .exact he
  .exact absurd this.symm (hp k' k ha' ha hlt)
 .obtain ⟨h1,h2⟩:=nB t he hl;show bn cx w tab _ _ (if t<n then a7 env t else .any) /\ (if t<n then a7 env t else .any).lt nx;split
  case isFalse=>exact ⟨.tree (.any _),trivial⟩
  refine ⟨?_,h2⟩;rcases h1 with h1|h1
  .refine lr hS hK _ _ ?_;rw [h1];exact (h.env t).1
  .rw [h1];exact .tree (.any _)
theorem aW {st:ai} (t e sz:Nat) (hg:st.get t=.c (.slice none 0 0)):dw st ⟨st.n,(t,.osl st.next) :: st.env,(st.next,some (.row e sz [])) :: st.tab,st.next+1⟩:=by
 intro cx a w L h;have hv:=(h.env t).1;rw [hg] at hv;have hv:=hv.c_inv
 have hput:a.put (some t) (.slice none 0 0)=a:=by
  unfold Act.put
  have:a.tmps.setIfInBounds t (.slice none 0 0)=a.tmps:=by
   apply KS (by simp);intro i h1 h2;rw [Array.getElem_setIfInBounds];split
   .rename_i e;subst e;rw [<- hv];simp [Array.getD,h2]
   .rfl
  simp only [this]
 refine ⟨bc L st.next (.slice none 0 0),?_,fun b hb=>⟨hb.1,hb.2.1,fun k o hk hg=>?_⟩⟩
 rotate_left
 .have hk:ag.get ((st.next,some (.row e sz [])) :: st.tab) k=some o:=hk;rw [ag.gc] at hk;unfold bc at hg;split at hk
  .rename_i e1;rw [I8 e1] at hg;simp [aG] at hg
  .rename_i e1;rw [I4 e1] at hg;exact hb.2.2 k o hk hg
 have:=gm (ob:=.row e sz []) (v:=.slice none 0 0) (x:=.slice none 0 0) (av:=.osl st.next) h (Below.refl _ _) (fun g hg=>by simp [aG] at hg) (fun hext=>⟨by simp,[],gA ..,by simp,by simp⟩) trivial (fun hext=>?_) (JQ _) (some t)
 .rw [hput] at this;exact this
 .refine .osl _ _ fun sz u hk=>?_;simp [Kx,ag.gc,bc] at hk;exact hk.2
theorem fq {st:ai} {n nx:Nat} {env:List (Nat × AV)} {tab:ag} (h:st.n=n /\ (ik st env /\ il st tab) /\ cb nx env /\ cd nx tab):dw st ⟨n,env,tab,nx⟩:=zP h.1 h.2.1.1 h.2.1.2 h.2.2.1 h.2.2.2
theorem i8 {st:ai} {n nx:Nat} {env:List (Nat × AV)} {tab:ag} (ids:List Nat) (h:ids.Nodup /\ st.n=n /\ (fV st ids env /\ fy st ids tab) /\ cb nx env /\ cd nx tab):dw st ⟨n,env,tab,nx⟩:=Ai ids h.1 h.2.1 h.2.2.1.1 h.2.2.1.2 h.2.2.2.1 h.2.2.2.2
def aw (st:ai) (t:Nat):Nat:=match st.get t with | .c (.int _ n)=>n.toNat | _=>0
theorem aP {x:Int} (h1:-9223372036854775808<=x) (h2:x<=9223372036854775807):IntKind.i64.wrap x=x:=by
 rw [IntKind.wrap_i64];omega
theorem ic {k:Nat} (h:k<=4611686018427387904):IntKind.i64.wrap ((k:Int)+1)=((k+1:Nat):Int):=by
 rw [aP (by omega) (by omega)];omega
def val (v:Value):bS:=⟨.c v,[],0⟩
theorem aq (v:Value):(val v).Ok:=⟨fun id o h=>(by cases h),trivial⟩
theorem oW {v:Value} {st:ai} {av:AV} (h:av=.c v):cI (val v) st av:=⟨[],List.nodup_nil,by rw [h];rfl,trivial⟩
theorem tS {v:Value} {st:ai} {av:AV}:cI (val v) st av=(av=.c v):=propext ⟨fun ⟨ren,_,h,_⟩=>h.symm,oW⟩
abbrev eI (n:Int):AV:=.c (.int .i64 n)
abbrev eB (b:Bool):AV:=.c (.bool b)
abbrev eS (s:ByteArray):AV:=.c (.string s)
abbrev sI (l:List Int):AV:=.sl 1 (l.map fun n=>[eI n])
theorem ac {α:Type} {f:α -> List AV} {l:List α} {k:Nat} (h:k<l.length):(l.map f)[k]?.getD []=f l[k]:=by
 rw [IW,IU h];rfl
theorem aD {P:Program} {g:FuncId} {args:List AV} {v:Value} {K:Value -> Prop} (h:ap P g args (val v)) (hk:K v):∃ v,ap P g args ⟨.c v,[],0⟩ /\ K v:=⟨v,h,hk⟩
theorem jU {I:ai -> Prop} {μ:ai -> Nat} {n:Nat} {st st':ai} (hw:dw st st') (hI:I st') (hm:μ st'<n):nb I μ n st:=⟨st',hw,hI,hm⟩
end
section
theorem GK:bp Tryz.prog 32=true:=by kernel_rfl
theorem EC:al Tryz.prog 32=10:=by kernel_rfl
theorem Ft:bu Tryz.prog 41=some (Value.agg #[Value.slice none 0 0,Value.slice none 0 0,Value.slice none 0 0]):=by kernel_rfl
theorem Eu:al Tryz.prog 41=3:=by kernel_rfl
theorem BM:bI Tryz.prog 41 0=some 0:=by kernel_rfl
theorem FH:bp Tryz.prog 37=false:=by kernel_rfl
theorem FC:al Tryz.prog 37=1:=by kernel_rfl
theorem GV:a6 Tryz.prog 37=(47,5):=by kernel_rfl
theorem Io:tK Tryz.prog 3=Hw.int:=by kernel_rfl
theorem FG:bp Tryz.prog 47=true:=by kernel_rfl
theorem Gl:al Tryz.prog 47=5:=by kernel_rfl
theorem Gz:bu Tryz.prog 47=some (Value.agg #[Value.slice none 0 0,Value.int IntKind.i64 0,Value.int IntKind.i64 0,Value.slice none 0 0,Value.slice none 0 0]):=by kernel_rfl
theorem Fy:a6 Tryz.prog 35=(49,2):=by kernel_rfl
theorem GI:bp Tryz.prog 49=true:=by kernel_rfl
theorem GQ:al Tryz.prog 49=2:=by kernel_rfl
theorem Fv:bu Tryz.prog 49=some (Value.agg #[Value.int IntKind.i64 0,Value.int IntKind.i64 0]):=by kernel_rfl
theorem BW:bI Tryz.prog 49 0=some 0:=by kernel_rfl
theorem Ib:bp Tryz.prog 3=false:=by kernel_rfl
theorem HV:al Tryz.prog 3=1:=by kernel_rfl
theorem Cf:bI Tryz.prog 47 1=some 1:=by kernel_rfl
theorem Cb:bI Tryz.prog 49 1=some 1:=by kernel_rfl
theorem Aw:bI Tryz.prog 47 2=some 2:=by kernel_rfl
theorem B2:bI Tryz.prog 47 3=some 3:=by kernel_rfl
theorem Ew:bp Tryz.prog 45=false:=by kernel_rfl
theorem Gc:al Tryz.prog 45=1:=by kernel_rfl
theorem Gn:a6 Tryz.prog 45=(3,1):=by kernel_rfl
theorem zO:bI Tryz.prog 32 6=some 6:=by kernel_rfl
theorem GJ:bp Tryz.prog 27=false:=by kernel_rfl
theorem Hj:al Tryz.prog 27=1:=by kernel_rfl
theorem Hr:a6 Tryz.prog 27=(53,3):=by kernel_rfl
theorem Bm:bI Tryz.prog 32 7=some 7:=by kernel_rfl
theorem E4:bp Tryz.prog 28=false:=by kernel_rfl
theorem Gs:al Tryz.prog 28=1:=by kernel_rfl
theorem En:a6 Tryz.prog 28=(55,5):=by kernel_rfl
theorem zw:bI Tryz.prog 32 4=some 4:=by kernel_rfl
theorem EM:bp Tryz.prog 25=false:=by kernel_rfl
theorem FO:al Tryz.prog 25=1:=by kernel_rfl
theorem EK:a6 Tryz.prog 25=(66,2):=by kernel_rfl
theorem BA:bI Tryz.prog 32 5=some 5:=by kernel_rfl
theorem E5:bp Tryz.prog 26=false:=by kernel_rfl
theorem E9:al Tryz.prog 26=1:=by kernel_rfl
theorem Fa:a6 Tryz.prog 26=(57,5):=by kernel_rfl
theorem BF:bI Tryz.prog 32 0=some 0:=by kernel_rfl
theorem EZ:bp Tryz.prog 22=false:=by kernel_rfl
theorem Hu:al Tryz.prog 22=1:=by kernel_rfl
theorem Fg:a6 Tryz.prog 22=(9,1):=by kernel_rfl
theorem AK:bI Tryz.prog 32 2=some 2:=by kernel_rfl
theorem Cg:bI Tryz.prog 32 3=some 3:=by kernel_rfl
theorem EH:bp Tryz.prog 24=false:=by kernel_rfl
theorem EG:al Tryz.prog 24=1:=by kernel_rfl
theorem Hd:a6 Tryz.prog 24=(86,2):=by kernel_rfl
theorem B9:bI Tryz.prog 32 8=some 8:=by kernel_rfl
theorem Gg:bp Tryz.prog 29=false:=by kernel_rfl
theorem FU:al Tryz.prog 29=1:=by kernel_rfl
theorem Ge:a6 Tryz.prog 29=(91,2):=by kernel_rfl
theorem Ak:bI Tryz.prog 32 9=some 9:=by kernel_rfl
theorem EQ:bp Tryz.prog 30=false:=by kernel_rfl
theorem Et:al Tryz.prog 30=1:=by kernel_rfl
theorem G5:a6 Tryz.prog 30=(97,2):=by kernel_rfl
theorem zS:bI Tryz.prog 32 1=some 1:=by kernel_rfl
theorem Fi:bp Tryz.prog 23=false:=by kernel_rfl
theorem GL:al Tryz.prog 23=1:=by kernel_rfl
theorem F0:a6 Tryz.prog 23=(2,1):=by kernel_rfl
theorem Ep:tK Tryz.prog 23=Hw.slice:=by kernel_rfl
theorem zD:bI Tryz.prog 53 2=some 2:=by kernel_rfl
theorem FK:bp Tryz.prog 51=false:=by kernel_rfl
theorem Ek:al Tryz.prog 51=1:=by kernel_rfl
theorem F1:a6 Tryz.prog 51=(118,7):=by kernel_rfl
theorem AE:bI Tryz.prog 55 3=some 3:=by kernel_rfl
theorem yU:bI Tryz.prog 57 3=some 3:=by kernel_rfl
theorem G8:de Tryz.prog 66=some ([(0,1),(1,1)],[Value.string ByteArray.empty,Value.int IntKind.i64 0]):=by kernel_rfl
theorem GC:cl Tryz.prog 25=some (66,2,24):=by kernel_rfl
theorem Fc:de Tryz.prog 32=some ([(0,1),(1,1),(2,1),(3,1),(4,1),(5,1),(6,1),(7,1),(8,1),(9,1)],[Value.slice none 0 0,Value.slice none 0 0,Value.slice none 0 0,Value.slice none 0 0,Value.slice none 0 0,Value.slice none 0 0,Value.slice none 0 0,Value.slice none 0 0,Value.slice none 0 0,Value.slice none 0 0]):=by kernel_rfl
theorem EU:de Tryz.prog 49=some ([(0,1),(1,1)],[Value.int IntKind.i64 0,Value.int IntKind.i64 0]):=by kernel_rfl
theorem Fl:a6 Tryz.prog 67=(71,2):=by kernel_rfl
theorem Fu:bp Tryz.prog 71=true:=by kernel_rfl
theorem FB:al Tryz.prog 71=2:=by kernel_rfl
theorem GZ:bu Tryz.prog 71=some (Value.agg #[Value.int IntKind.i64 0,Value.nilFunc]):=by kernel_rfl
theorem yS:bI Tryz.prog 71 0=some 0:=by kernel_rfl
theorem Bv:bI Tryz.prog 71 1=some 1:=by kernel_rfl
theorem Hg:bp Tryz.prog 69=false:=by kernel_rfl
theorem Gm:al Tryz.prog 69=1:=by kernel_rfl
theorem Fe:cl Tryz.prog 35=some (49,2,16):=by kernel_rfl
theorem G4:bp Tryz.prog 41=true:=by kernel_rfl
theorem Gt:lS Tryz.prog 72=some (9,3):=by kernel_rfl
theorem EW:cl Tryz.prog 37=some (47,5,88):=by kernel_rfl
theorem EJ:de Tryz.prog 41=some ([(0,1),(1,1),(2,1)],[Value.slice none 0 0,Value.slice none 0 0,Value.slice none 0 0]):=by kernel_rfl
theorem E8:a6 Tryz.prog 77=(82,3):=by kernel_rfl
theorem Es:bp Tryz.prog 82=true:=by kernel_rfl
theorem Ex:al Tryz.prog 82=3:=by kernel_rfl
theorem Er:cl Tryz.prog 45=some (3,1,8):=by kernel_rfl
theorem Bq:bI Tryz.prog 41 1=some 1:=by kernel_rfl
theorem GP:bp Tryz.prog 38=false:=by kernel_rfl
theorem GE:al Tryz.prog 38=1:=by kernel_rfl
theorem Gw:cl Tryz.prog 38=some (77,1,24):=by kernel_rfl
theorem B4:bI Tryz.prog 41 2=some 2:=by kernel_rfl
theorem Ff:bp Tryz.prog 39=false:=by kernel_rfl
theorem El:al Tryz.prog 39=1:=by kernel_rfl
theorem Fb:cl Tryz.prog 39=some (45,1,24):=by kernel_rfl
theorem Gv:cl Tryz.prog 23=some (2,1,8):=by kernel_rfl
theorem Ac:bI Tryz.prog 86 1=some 1:=by kernel_rfl
theorem Ad:bI Tryz.prog 66 1=some 1:=by kernel_rfl
theorem GY:bp Tryz.prog 57=true:=by kernel_rfl
theorem GH:al Tryz.prog 57=5:=by kernel_rfl
theorem Gj:bu Tryz.prog 57=some (Value.agg #[Value.string ByteArray.empty,Value.int IntKind.i64 0,Value.int IntKind.i64 0,Value.slice none 0 0,Value.int IntKind.i64 0]):=by kernel_rfl
theorem zZ:bI Tryz.prog 57 1=some 1:=by kernel_rfl
theorem AY:bI Tryz.prog 57 2=some 2:=by kernel_rfl
theorem Fo:bp Tryz.prog 53=true:=by kernel_rfl
theorem FP:al Tryz.prog 53=3:=by kernel_rfl
theorem FX:bu Tryz.prog 53=some (Value.agg #[Value.int IntKind.i64 0,Value.int IntKind.i64 0,Value.slice none 0 0]):=by kernel_rfl
theorem Bb:bI Tryz.prog 53 0=some 0:=by kernel_rfl
theorem AL:bI Tryz.prog 53 1=some 1:=by kernel_rfl
theorem EP:bp Tryz.prog 55=true:=by kernel_rfl
theorem FS0:al Tryz.prog 55=5:=by kernel_rfl
theorem F3:bu Tryz.prog 55=some (Value.agg #[Value.string ByteArray.empty,Value.int IntKind.i64 0,Value.int IntKind.i64 0,Value.slice none 0 0,Value.bool false]):=by kernel_rfl
theorem BT:bI Tryz.prog 55 1=some 1:=by kernel_rfl
theorem Bx:bI Tryz.prog 55 2=some 2:=by kernel_rfl
theorem AU:bI Tryz.prog 91 0=some 0:=by kernel_rfl
theorem zd:bI Tryz.prog 91 1=some 1:=by kernel_rfl
theorem zT:bI Tryz.prog 57 4=some 4:=by kernel_rfl
theorem GX:cl Tryz.prog 94=some (4,1,1):=by kernel_rfl
theorem Gi:ud 94=false:=by kernel_rfl
theorem EO:a6 Tryz.prog 94=(4,1):=by kernel_rfl
theorem Ix:bp Tryz.prog 4=false:=by kernel_rfl
theorem HU:al Tryz.prog 4=1:=by kernel_rfl
theorem zn:cl Tryz.prog 30=some (97,2,16):=by kernel_rfl
theorem GR:bp Tryz.prog 97=true:=by kernel_rfl
theorem Gq:al Tryz.prog 97=2:=by kernel_rfl
theorem Ir:bu Tryz.prog 3=some (Value.int IntKind.i64 0):=by kernel_rfl
theorem Fh:bp Tryz.prog 86=true:=by kernel_rfl
theorem GN:al Tryz.prog 86=2:=by kernel_rfl
theorem Ez:bu Tryz.prog 86=some (Value.agg #[Value.string ByteArray.empty,Value.int IntKind.i64 0]):=by kernel_rfl
theorem EN:bu Tryz.prog 87=some (Value.nilFunc):=by kernel_rfl
theorem G1:al Tryz.prog 87=1:=by kernel_rfl
theorem Fd:de Tryz.prog 71=some ([(0,1),(1,1)],[Value.int IntKind.i64 0,Value.nilFunc]):=by kernel_rfl
theorem G9:cl Tryz.prog 67=some (71,2,16):=by kernel_rfl
theorem AC:bI Tryz.prog 47 0=some 0:=by kernel_rfl
theorem HD:bp Tryz.prog 2=false:=by kernel_rfl
theorem HT:al Tryz.prog 2=1:=by kernel_rfl
theorem It:tK Tryz.prog 9=Hw.str:=by kernel_rfl
theorem Bk:bI Tryz.prog 47 4=some 4:=by kernel_rfl
theorem zK:bI Tryz.prog 82 2=some 2:=by kernel_rfl
theorem DE:a6 Tryz.prog 110=(23,1):=by kernel_rfl
theorem zh:bI Tryz.prog 82 0=some 0:=by kernel_rfl
theorem Ar:bI Tryz.prog 82 1=some 1:=by kernel_rfl
theorem Gx:de Tryz.prog 82=some ([(0,1),(1,1),(2,1)],[Value.int IntKind.i64 0,Value.int IntKind.i64 0,Value.slice none 0 0]):=by kernel_rfl
theorem E3:cl Tryz.prog 77=some (82,3,40):=by kernel_rfl
theorem F7:de Tryz.prog 47=some ([(0,1),(1,1),(2,1),(3,1),(4,1)],[Value.slice none 0 0,Value.int IntKind.i64 0,Value.int IntKind.i64 0,Value.slice none 0 0,Value.slice none 0 0]):=by kernel_rfl
theorem yE:bI Tryz.prog 118 0=some 0:=by kernel_rfl
theorem wL:bI Tryz.prog 118 1=some 1:=by kernel_rfl
theorem xq:bI Tryz.prog 116 0=some 0:=by kernel_rfl
theorem xS:bI Tryz.prog 116 1=some 1:=by kernel_rfl
theorem w8:bI Tryz.prog 118 2=some 3:=by kernel_rfl
theorem CS:de Tryz.prog 125=some ([(0,1),(1,2),(3,2),(5,1),(6,1),(7,2)],[Value.int IntKind.i64 0,Value.string ByteArray.empty,Value.int IntKind.i64 0,Value.string ByteArray.empty,Value.int IntKind.i64 0,Value.string ByteArray.empty,Value.string ByteArray.empty,Value.int IntKind.i64 0,Value.int IntKind.i64 0]):=by kernel_rfl
theorem C9:cl Tryz.prog 119=some (125,9,104):=by kernel_rfl
theorem DP:bp Tryz.prog 118=true:=by kernel_rfl
theorem DT:al Tryz.prog 118=7:=by kernel_rfl
theorem Fk:bu Tryz.prog 97=some (Value.agg #[Value.bool false,Value.int IntKind.i64 0]):=by kernel_rfl
theorem G2:de Tryz.prog 97=some ([(0,1),(1,1)],[Value.bool false,Value.int IntKind.i64 0]):=by kernel_rfl
theorem FF:bp Tryz.prog 66=true:=by kernel_rfl
theorem FZ:al Tryz.prog 66=2:=by kernel_rfl
theorem EL:bu Tryz.prog 66=some (Value.agg #[Value.string ByteArray.empty,Value.int IntKind.i64 0]):=by kernel_rfl
theorem FR:bp Tryz.prog 91=true:=by kernel_rfl
theorem F6:al Tryz.prog 91=2:=by kernel_rfl
theorem GO:bu Tryz.prog 91=some (Value.agg #[Value.int IntKind.i64 0,Value.int IntKind.i64 0]):=by kernel_rfl
theorem ER:bu Tryz.prog 30=some (Value.slice none 0 0):=by kernel_rfl
theorem CR:bu Tryz.prog 118=some (Value.agg #[Value.int IntKind.i64 0,Value.int IntKind.i64 0,Value.int IntKind.i64 0,Value.int IntKind.i64 0,Value.int IntKind.i64 0,Value.int IntKind.i64 0,Value.int IntKind.i64 0]):=by kernel_rfl
theorem Hm:bp Tryz.prog 87=false:=by kernel_rfl
theorem Gh:ud 45=false:=by kernel_rfl
theorem EX:ud 23=false:=by kernel_rfl
theorem CK:cl Tryz.prog 110=some (23,1,24):=by kernel_rfl
theorem D6:a6 Tryz.prog 119=(125,9):=by kernel_rfl
theorem w7:bI Tryz.prog 118 3=some 5:=by kernel_rfl
theorem xF:bI Tryz.prog 118 4=some 6:=by kernel_rfl
theorem Dc:a6 Tryz.prog 156=(116,2):=by kernel_rfl
theorem DG:bp Tryz.prog 116=true:=by kernel_rfl
theorem CW:al Tryz.prog 116=2:=by kernel_rfl
theorem DX:bu Tryz.prog 116=some (Value.agg #[Value.int IntKind.i64 0,Value.int IntKind.i64 0]):=by kernel_rfl
theorem Em:cl Tryz.prog 51=some (118,7,56):=by kernel_rfl
theorem AQ:bI Tryz.prog 97 0=some 0:=by kernel_rfl
theorem Be:bI Tryz.prog 97 1=some 1:=by kernel_rfl
theorem yf:bI Tryz.prog 125 0=some 0:=by kernel_rfl
theorem D4:cl Tryz.prog 156=some (116,2,16):=by kernel_rfl
theorem HJ:pc Tryz.prog 3=some IntKind.i64:=by kernel_rfl
theorem CA:pc Tryz.prog 174=some IntKind.u64:=by kernel_rfl
theorem B8:bI Tryz.prog 55 4=some 4:=by kernel_rfl
theorem H4:bu Tryz.prog 4=some (Value.bool false):=by kernel_rfl
theorem Ia:bu Tryz.prog 2=some (Value.int IntKind.i64 0):=by kernel_rfl
end
section
def SC (P:Program) (c:Code) (Q:Exit -> ai -> Prop) (st:ai):Prop:=∀ (cx:Cx) (a:Act) (w:World) (L:Nat -> Value),aH cx a w st L -> c.wp P (lb cx Q) a w
section
variable {P:Program} {x y:Code} {Q Q':Exit -> ai -> Prop} {st st':ai}
theorem cy (hm:P.follows .mixedOrders=true) (h:bB P x Q st):SC P x Q st:=fun cx a w L hc=>p6 hm x Q a w st L hc h
theorem SC.mono (h:SC P x Q st) (hq:∀ e st,Q e st -> Q' e st):SC P x Q' st:=fun cx a w L hc=>Code.wp_mono (fun e a w ⟨st',L',h1,h2⟩=>⟨st',L',hq e st' h1,h2⟩) (h cx a w L hc)
theorem SC.weak (hw:dw st st') (h:SC P x Q st'):SC P x Q st:=fun cx a w L hc=>(hw cx a w L hc).elim fun L' hc'=>h cx a w L' hc'.1
theorem FJ (h:SC P x (jz (SC P y Q) Q) st):SC P (.seq x y) Q st:=fun cx a w L hc=>
 wp_seq (Code.wp_mono (fun e a' w' ⟨st',L',h1,h2⟩=>by
  cases e with
  | normal=>exact h1 cx a' w' L' h2
  | _=>exact ⟨st',L',h1,h2⟩) (h cx a w L hc))
theorem bG {I:ai -> Prop} (hw:dw st st') (h:I st'):IB I st:=⟨st',hw,h⟩
theorem b5 (I:ai -> Prop) (h:SC P x (jz (IB I) Q) st) (h2:∀ st,I st -> SC P y Q st):SC P (.seq x y) Q st:=
 FJ (h.mono fun e st h=>by
  cases e with
  | normal=>
   obtain ⟨st',hw,hI⟩:=h;exact (h2 st' hI).weak hw
  | _=>exact h)
end
theorem gQ {P : Program} {f : FuncId} {fn : Func} {c : Code} (hf : P.funcs[f]? = some fn) (hb : fn.body = some c) (hname : (fn.name == "runtime.NumGoroutine") = false) {args : List AV} {Post : bS → Prop} {n : Nat} (hnt : fn.ntmps = n) {rs : List ResultVar} (hrs : fn.results = rs.toArray) (hn : Nat.ble args.length n = true)
  (h:SC P c (tp P rs Post) ⟨n,fR 0 args,[],0⟩):bh P f args Post:=jP hf hb hname hnt hrs hn h
theorem bo {P:Program} {f:FuncId} {args:List AV} {v:Value} (he:dR P f)
  (h:∀ (S:Nat -> Prop) (w:World) (vs:Array Value),yQ w S -> vs.size=args.length -> (∀ (j:Nat) (v:Value) (av:AV),vs[j]? = some v -> args[j]? = some av -> RT w S v av) -> Calls P f vs w fun e w'=>e=.returned v /\ Below w.heap.size w w'):ap P f args (val v):=
 ⟨he,fun S w vs h1 h2 h3=>(h S w vs h1 h2 h3).mono fun e w' ⟨h4,h5⟩=>⟨v,fun _=>undef,val v,rfl,aq v,h4,⟨jR h5,fun id o h=>(by cases h),fun id id' o o' g h=>(by cases h),fun b hb=>hb.elim⟩,.tree (.c v)⟩⟩
theorem ap.calls {P:Program} {f:FuncId} {args:List AV} {v:Value} (h:ap P f args (val v)) {w:World} {vs:Array Value} (h2:vs.size=args.length) (h3:∀ (j:Nat) (v:Value) (av:AV),vs[j]? = some v -> args[j]? = some av -> RT w (fun b=>b<w.heap.size) v av) (hA:xl w:=by exact CH _) :
  Calls P f vs w fun e w'=>e=.returned v /\ Below w.heap.size w w':=
 (h.2 _ w vs ⟨fun b hb=>hb,hA,fun b hb=>I1 hb hA.le⟩ h2 h3).mono fun e w' ⟨v',L,R,h0,_,h4,h5,h6⟩=>by
  subst h0;obtain rfl:=h6.c_inv;exact ⟨h4,h5.below.below fun b hb=>hb⟩
def cu (e:TypeId) (sz:Nat) (rows:List (List AV)):bS:=⟨.osl 0,[(0,some (.row e sz rows))],1⟩
theorem cK (e:TypeId) (sz:Nat) (rows:List (List AV)):(cu e sz rows).Ok:=by
 refine ⟨fun id o h=>?_,KC⟩;simp only [cu,ag.gc] at h;split at h
 .rename_i e;cases h;subst e;exact ⟨KC,trivial⟩
 .cases h
theorem a5 {e:TypeId} {sz:Nat} {rows:List (List AV)} {st:ai} {id:Nat}:st.tab.get id=some (.row e sz rows) -> cI (cu e sz rows) st (.osl id):=fun h=>
 ⟨[id],by simp,rfl,⟨KC,⟨e,sz,rows,rfl⟩,h⟩,trivial⟩
theorem co {Post:bS -> Prop} {st:ai} {v:Value} (h:Post (val v)):∃ R,Post R /\ R.Ok /\ cI R st (.c v):=⟨_,h,aq v,oW rfl⟩
theorem kE {Post:bS -> Prop} {st:ai} {id:Nat} {e:TypeId} {sz:Nat} {rows:List (List AV)} (hg:st.tab.get id=some (.row e sz rows)) (h:Post (cu e sz rows)):∃ R,Post R /\ R.Ok /\ cI R st (.osl id):=⟨_,h,cK ..,a5 hg⟩
theorem dV {u:Option (Nat × List Nat)} {P:Program} {st:ai} {g:FuncId} {args:List AV} {K:AV -> ai -> Prop} {Post:bS -> Prop} (h:bh P g (args.map (dk st.tab)) Post) (hk:∀ R,Post R -> (oC args \/ (R.r.plain /\ R.tab.plain)) /\ K (R.r.shift st.next) { st with tab:=R.tab.shift st.next ++ st.tab,next:=st.next+R.n }):dr u P st g args K:=.inl (.inl ⟨Post,h,hk⟩)
theorem sH {u:Option (Nat × List Nat)} {P:Program} {st:ai} {g:FuncId} {args:List AV} {K:AV -> ai -> Prop} {R:bS} (h:ap P g (args.map (dk st.tab)) R) (ho:oC args \/ (R.r.plain /\ R.tab.plain)) (hk:K (R.r.shift st.next) { st with tab:=R.tab.shift st.next ++ st.tab,next:=st.next+R.n }):dr u P st g args K:=
 .inl (.inl ⟨_,h,fun R' e=>by subst e;exact ⟨ho,hk⟩⟩)
theorem ak {u:Option (Nat × List Nat)} {P:Program} {st:ai} {g:FuncId} {args:List AV} {dst:Option Nat} {K:ai -> Prop} {v:Value} (h:ap P g (args.map (dk st.tab)) (val v)) (hk:K (st.put dst (.c v))):dr u P st g args (tJ dst K):=
 sH h (.inr ⟨trivial,trivial⟩) hk
def IT:=(And.intro (And.intro (And.intro (And.intro (And.intro (And.intro (And.intro @t8 @vl) (And.intro @vf @xZ)) (And.intro (And.intro @uV @rV) (And.intro @uY @tZ))) (And.intro (And.intro (And.intro @yl @sm) (And.intro @tG @sr)) (And.intro (And.intro @qg @tP) (And.intro @yy @ml)))) (And.intro (And.intro (And.intro (And.intro @qW @oM) (And.intro @uP @zi)) (And.intro (And.intro @Hc @H8) (And.intro @Fp @Fj))) (And.intro (And.intro (And.intro @Dh @C6) (And.intro @B1 @w6)) (And.intro (And.intro @yA @xk) (And.intro @Ah @uH))))) (And.intro (And.intro (And.intro (And.intro (And.intro @ui @xA) (And.intro @tt @r3)) (And.intro (And.intro @vm @qw) (And.intro @oK @GM))) (And.intro (And.intro (And.intro @Gr @FM) (And.intro @Eo @Ce)) (And.intro (And.intro @x3 @xW) (And.intro @uq @tB)))) (And.intro (And.intro (And.intro (And.intro @Aj @uz) (And.intro @y9 @Aq)) (And.intro (And.intro @xy @w4) (And.intro @Dm @Ej))) (And.intro (And.intro (And.intro @rk @AI) (And.intro @D2 @tT)) (And.intro (And.intro @ze @qI) (And.intro @C0 (And.intro @yk @xV))))))) (And.intro (And.intro (And.intro (And.intro (And.intro (And.intro @mI @oJ) (And.intro @yN @x8)) (And.intro (And.intro @r8 @yp) (And.intro @xM @vo))) (And.intro (And.intro (And.intro @ua @zr) (And.intro @DF @zM)) (And.intro (And.intro @xh @yL) (And.intro @t7 @vB)))) (And.intro (And.intro (And.intro (And.intro @tS @Fs) (And.intro @GU @DB)) (And.intro (And.intro @xa @rH) (And.intro @uc @sa))) (And.intro (And.intro (And.intro @xK @vy) (And.intro @tY @xT)) (And.intro (And.intro @tf @rb) (And.intro @qQ @qi))))) (And.intro (And.intro (And.intro (And.intro (And.intro @yJ @qd) (And.intro @sU @tC)) (And.intro (And.intro @sN @p8) (And.intro @pS @vA))) (And.intro (And.intro (And.intro @xO @oy) (And.intro @rm @x6)) (And.intro (And.intro @pV @xU) (And.intro @qT @sv)))) (And.intro (And.intro (And.intro (And.intro @qD @uO) (And.intro @lf @uo)) (And.intro (And.intro @uC @uS) (And.intro @rz @sZ))) (And.intro (And.intro (And.intro @xi @Al) (And.intro @oO @xc)) (And.intro (And.intro @mp @tq) (And.intro @r7 (And.intro @u6 @oH))))))))
def IQ:=(And.intro (And.intro (And.intro (And.intro (And.intro @ag.gc (And.intro @Kl @Nat.add_zero)) (And.intro (And.intro @Kp @Kh) (And.intro @Kc @KH))) (And.intro (And.intro (And.intro @JN @Jo) (And.intro @Jh @Kf)) (And.intro (And.intro @List.drop_succ_cons.{0} @List.drop_zero.{0}) (And.intro @List.take_succ_cons.{0} @I5)))) (And.intro (And.intro (And.intro (And.intro @List.headD_cons.{0} @Jd) (And.intro @Bool.not_true @Bool.not_false)) (And.intro (And.intro @true_and @and_true) (And.intro @Ju @JM))) (And.intro (And.intro (And.intro @JR @JS) (And.intro @KI @KQ)) (And.intro (And.intro @AV.c.injEq @Value.bool.injEq) (And.intro @Value.int.injEq @false_implies))))) (And.intro (And.intro (And.intro (And.intro (And.intro @Je @Ji) (And.intro @Kn @Int.ofNat_lt)) (And.intro (And.intro @Int.ofNat_le @J4) (And.intro @not_false_eq_true @not_true_eq_false))) (And.intro (And.intro (And.intro @I6 @false_and) (And.intro @and_false @Nat.succ_ne_zero)) (And.intro (And.intro @imp_self @true_implies) (And.intro @decide_true @decide_false)))) (And.intro (And.intro (And.intro (And.intro @Kt @KM) (And.intro @IY @JO)) (And.intro (And.intro @List.not_mem_nil.{0} @or_false) (And.intro @JY @JX))) (And.intro (And.intro (And.intro @JV @Option.map_none.{0,0}) (And.intro @KN @Option.isSome_none.{0})) (And.intro (And.intro @Int.le_refl @I9) (And.intro @true_or @or_true))))))
def f9:=(And.intro (And.intro (And.intro (And.intro @ag.gc @and_true) (And.intro @true_and (And.intro @AV.c.injEq @Value.int.injEq))) (And.intro (And.intro @Value.bool.injEq @Bool.not_true) (And.intro @Bool.not_false (And.intro @KI @KQ)))) (And.intro (And.intro (And.intro @Nat.succ_ne_zero @not_true_eq_false) (And.intro @not_false_eq_true (And.intro @Kn @JN))) (And.intro (And.intro @Jo (And.intro @JM @JR)) (And.intro @JS (And.intro @decide_true @decide_false)))))
def Bw:=And.intro IT (And.intro IQ (And.intro (And.intro (And.intro (And.intro (And.intro (And.intro (And.intro (And.intro @aU.eq_1 (And.intro @aU.eq_2 @aU.eq_3)) (And.intro (And.intro @aU.eq_4 @kn.eq_1) (And.intro @ig.eq_1 @ig.eq_2))) (And.intro (And.intro (And.intro @ig.eq_3 @jC.eq_1) (And.intro @fA.eq_1 @fA.eq_2)) (And.intro (And.intro @fA.eq_3 @fA.eq_4) (And.intro @fA.eq_5 @oh.eq_1)))) (And.intro (And.intro (And.intro @oh.eq_2 (And.intro @oh.eq_3 @oh.eq_4)) (And.intro (And.intro @oh.eq_5 @qb.eq_1) (And.intro @qb.eq_2 @qb.eq_3))) (And.intro (And.intro (And.intro @qb.eq_4 @dy.eq_1) (And.intro @dy.eq_2 @dy.eq_3)) (And.intro (And.intro @dy.eq_4 @dy.eq_5) (And.intro @dy.eq_6 @dy.eq_7))))) (And.intro (And.intro (And.intro (And.intro @dy.eq_8 (And.intro @dy.eq_9 @dy.eq_10)) (And.intro (And.intro @dy.eq_11 @dy.eq_12) (And.intro @dy.eq_13 @dy.eq_14))) (And.intro (And.intro (And.intro @dy.eq_15 @dy.eq_16) (And.intro @dy.eq_17 @dy.eq_18)) (And.intro (And.intro @dy.eq_19 @dy.eq_20) (And.intro @dy.eq_21 @dy.eq_22)))) (And.intro (And.intro (And.intro @dy.eq_23 (And.intro @dy.eq_24 @dy.eq_25)) (And.intro (And.intro @dy.eq_26 @dy.eq_27) (And.intro @dy.eq_28 @EE.eq_1))) (And.intro (And.intro (And.intro @EE.eq_2 @Eg.eq_1) (And.intro @Eg.eq_2 @Eg.eq_3)) (And.intro (And.intro @Eg.eq_4 @Eg.eq_5) (And.intro @gt.eq_1 @gt.eq_2)))))) (And.intro (And.intro (And.intro (And.intro (And.intro @ai.get.eq_1 (And.intro @a7.eq_1 @a7.eq_2)) (And.intro (And.intro @ai.put.eq_1 @ai.put.eq_2) (And.intro @ot.eq_1 @ot.eq_2))) (And.intro (And.intro (And.intro @rF.eq_1 @gC.eq_1) (And.intro @cW.eq_1 @iI.eq_1)) (And.intro (And.intro @oj.eq_1 @oj.eq_2) (And.intro @gj.eq_1 @gj.eq_2)))) (And.intro (And.intro (And.intro @mW.eq_1 (And.intro @mW.eq_2 @mW.eq_3)) (And.intro (And.intro @wF.eq_1 @wF.eq_2) (And.intro @yv.eq_1 @yv.eq_2))) (And.intro (And.intro (And.intro @aj.eq_1 @aj.eq_2) (And.intro @aj.eq_3 @mR.eq_1)) (And.intro (And.intro @mR.eq_2 @mR.eq_3) (And.intro @mR.eq_4 @mR.eq_5))))) (And.intro (And.intro (And.intro (And.intro @mR.eq_6 (And.intro @mR.eq_7 @mR.eq_8)) (And.intro (And.intro @cH.eq_1 @cH.eq_2) (And.intro @aQ.eq_1 @aQ.eq_2))) (And.intro (And.intro (And.intro @aQ.eq_3 @aQ.eq_4) (And.intro @aQ.eq_5 @aQ.eq_6)) (And.intro (And.intro @aQ.eq_7 @aI.eq_1) (And.intro @aI.eq_2 @eY.eq_1)))) (And.intro (And.intro (And.intro @eY.eq_2 (And.intro @Dl @Ao)) (And.intro (And.intro @Bs @sO.eq_1) (And.intro @sO.eq_2 @sD.eq_1))) (And.intro (And.intro (And.intro @sD.eq_2 @sD.eq_3) (And.intro @th.eq_1 @th.eq_2)) (And.intro (And.intro @th.eq_3 @th.eq_4) (And.intro @bv.eq_1 @bv.eq_2))))))) (And.intro (And.intro (And.intro (And.intro (And.intro (And.intro @Go.Value.cells.eq_1 (And.intro @Go.Value.cells.eq_2 @Go.Value.oneCell'.eq_1)) (And.intro (And.intro @Go.Value.oneCell'.eq_2 @Go.Value.oneCell'.eq_3) (And.intro @fR.eq_1 @fR.eq_2))) (And.intro (And.intro (And.intro @dg.eq_1 @dg.eq_2) (And.intro @dg.eq_3 @lk.eq_1)) (And.intro (And.intro @lk.eq_2 @dk.eq_1) (And.intro @dk.eq_2 @dk.eq_3)))) (And.intro (And.intro (And.intro @dk.eq_4 (And.intro @dk.eq_5 @dk.eq_6)) (And.intro (And.intro @dk.eq_7 @dk.eq_8) (And.intro @dk.eq_9 @dk.eq_10))) (And.intro (And.intro (And.intro @dG.eq_1 @dG.eq_2) (And.intro @dG.eq_3 @dG.eq_4)) (And.intro (And.intro @dG.eq_5 @dG.eq_6) (And.intro @dG.eq_7 @dG.eq_8))))) (And.intro (And.intro (And.intro (And.intro @dG.eq_9 (And.intro @dG.eq_10 @dU.eq_1)) (And.intro (And.intro @dU.eq_2 @dU.eq_3) (And.intro @dU.eq_4 @dU.eq_5))) (And.intro (And.intro (And.intro @dU.eq_6 @dU.eq_7) (And.intro @dU.eq_8 @dU.eq_9)) (And.intro (And.intro @dU.eq_10 @tV.eq_1) (And.intro @tV.eq_2 @kY.eq_1)))) (And.intro (And.intro (And.intro @n4.eq_1 (And.intro @n4.eq_2 @k9.eq_1)) (And.intro (And.intro @k9.eq_2 @qx.eq_1) (And.intro @qx.eq_2 @rL.eq_1))) (And.intro (And.intro (And.intro @rL.eq_2 @rL.eq_3) (And.intro @p9.eq_1 @p9.eq_2)) (And.intro (And.intro @fF.eq_1 @fF.eq_2) (And.intro @fl.eq_1 @Hz.eq_1)))))) (And.intro (And.intro (And.intro (And.intro (And.intro @Hz.eq_2 (And.intro @jx.eq_1 @jx.eq_2)) (And.intro (And.intro @jx.eq_3 @lZ.eq_1) (And.intro @lZ.eq_2 @lY.eq_1))) (And.intro (And.intro (And.intro @lY.eq_2 @kz.eq_1) (And.intro @kz.eq_2 @kz.eq_3)) (And.intro (And.intro @kz.eq_4 @kz.eq_5) (And.intro @jN.eq_1 @jN.eq_2)))) (And.intro (And.intro (And.intro @jN.eq_3 (And.intro @jN.eq_4 @dt.eq_1)) (And.intro (And.intro @dt.eq_2 @fo.eq_1) (And.intro @fu.eq_1 @fu.eq_2))) (And.intro (And.intro (And.intro @fu.eq_3 @AV.frz.eq_1) (And.intro @AV.frz.eq_2 @AV.frz.eq_3)) (And.intro (And.intro @AV.frz.eq_4 @AV.frz.eq_5) (And.intro @AV.frz.eq_6 @AV.frz.eq_7))))) (And.intro (And.intro (And.intro (And.intro @AV.frz.eq_8 (And.intro @AV.frz.eq_9 @AV.frz.eq_10)) (And.intro (And.intro @AV.frzL.eq_1 @AV.frzL.eq_2) (And.intro @eT.eq_1 @eT.eq_2))) (And.intro (And.intro (And.intro @AV.shift.eq_1 @AV.shift.eq_2) (And.intro @AV.shift.eq_3 @AV.shift.eq_4)) (And.intro (And.intro @AV.shift.eq_5 @AV.shift.eq_6) (And.intro @AV.shift.eq_7 @AV.shift.eq_8)))) (And.intro (And.intro (And.intro @AV.shift.eq_9 (And.intro @AV.shift.eq_10 @AV.shiftL.eq_1)) (And.intro (And.intro @AV.shiftL.eq_2 @mE.eq_1) (And.intro @j9.eq_1 @j9.eq_2))) (And.intro (And.intro (And.intro @mD.eq_1 @mD.eq_2) (And.intro @jK.eq_1 @jK.eq_2)) (And.intro (And.intro @jK.eq_3 @mA.eq_1) (And.intro @mA.eq_2 @mB.eq_1)))))))) (And.intro (And.intro (And.intro (And.intro (And.intro (And.intro (And.intro @mB.eq_2 (And.intro @yP.eq_1 @yP.eq_2)) (And.intro (And.intro @yP.eq_3 @BX.eq_1) (And.intro @BX.eq_2 @BX.eq_3))) (And.intro (And.intro (And.intro @eZ.eq_1 @eZ.eq_2) (And.intro @pj.eq_1 @bP.eq_1)) (And.intro (And.intro @bP.eq_2 @aE.frz.eq_1) (And.intro @aE.frz.eq_2 @aE.frz.eq_3)))) (And.intro (And.intro (And.intro @aE.frz.eq_4 (And.intro @aE.frz.eq_5 @HA.eq_1)) (And.intro (And.intro @HA.eq_2 @tr.eq_1) (And.intro @tr.eq_2 @tr.eq_3))) (And.intro (And.intro (And.intro @kB.eq_1 @Ag.eq_1) (And.intro @Ag.eq_2 @Ag.eq_3)) (And.intro (And.intro @pL.eq_1 @pL.eq_2) (And.intro @mK.eq_1 @mK.eq_2))))) (And.intro (And.intro (And.intro (And.intro @gN.eq_1 (And.intro @gN.eq_2 @fQ.eq_1)) (And.intro (And.intro @fQ.eq_2 @mw.eq_1) (And.intro @mw.eq_2 @p5.eq_1))) (And.intro (And.intro (And.intro @p5.eq_2 @p5.eq_3) (And.intro @iA.eq_1 @iA.eq_2)) (And.intro (And.intro @false_or @B5.eq_1) (And.intro @B5.eq_2 @wz.eq_def)))) (And.intro (And.intro (And.intro @mJ.eq_def (And.intro @um.eq_def @eq_self.{1})) (And.intro (And.intro @ne_eq.{1} @implies_true.{1}) (And.intro @implies_true.{0} @forall_const.{1}))) (And.intro (And.intro (And.intro @forall_const.{0} @GK) (And.intro @EC @Ft)) (And.intro (And.intro @Eu @BM) (And.intro @FH @FC)))))) (And.intro (And.intro (And.intro (And.intro (And.intro @GV (And.intro @Io @FG)) (And.intro (And.intro @Gl @Gz) (And.intro @Fy @GI))) (And.intro (And.intro (And.intro @GQ @Fv) (And.intro @BW @Ib)) (And.intro (And.intro @HV @Cf) (And.intro @Cb @Aw)))) (And.intro (And.intro (And.intro @B2 (And.intro @Ew @Gc)) (And.intro (And.intro @Gn @zO) (And.intro @GJ @Hj))) (And.intro (And.intro (And.intro @Hr @Bm) (And.intro @E4 @Gs)) (And.intro (And.intro @En @zw) (And.intro @EM @FO))))) (And.intro (And.intro (And.intro (And.intro @EK (And.intro @BA @E5)) (And.intro (And.intro @E9 @Fa) (And.intro @BF @EZ))) (And.intro (And.intro (And.intro @Hu @Fg) (And.intro @AK @Cg)) (And.intro (And.intro @EH @EG) (And.intro @Hd @B9)))) (And.intro (And.intro (And.intro @Gg (And.intro @FU @Ge)) (And.intro (And.intro @Ak @EQ) (And.intro @Et @G5))) (And.intro (And.intro (And.intro @zS @Fi) (And.intro @GL @F0)) (And.intro (And.intro @Ep @zD) (And.intro @FK @Ek))))))) (And.intro (And.intro (And.intro (And.intro (And.intro (And.intro @F1 (And.intro @AE @yU)) (And.intro (And.intro @G8 @GC) (And.intro @Fc @EU))) (And.intro (And.intro (And.intro @Fl @Fu) (And.intro @FB @GZ)) (And.intro (And.intro @yS @Bv) (And.intro @Hg @Gm)))) (And.intro (And.intro (And.intro @Fe (And.intro @G4 @Gt)) (And.intro (And.intro @EW @EJ) (And.intro @E8 @Es))) (And.intro (And.intro (And.intro @Ex @Er) (And.intro @Bq @GP)) (And.intro (And.intro @GE @Gw) (And.intro @B4 @Ff))))) (And.intro (And.intro (And.intro (And.intro @El (And.intro @Fb @Gv)) (And.intro (And.intro @Ac @Ad) (And.intro @GY @GH))) (And.intro (And.intro (And.intro @Gj @zZ) (And.intro @AY @Fo)) (And.intro (And.intro @FP @FX) (And.intro @Bb @AL)))) (And.intro (And.intro (And.intro @EP (And.intro @FS0 @F3)) (And.intro (And.intro @BT @Bx) (And.intro @AU @zd))) (And.intro (And.intro (And.intro @zT @GX) (And.intro @Gi @EO)) (And.intro (And.intro @Ix @HU) (And.intro @zn @GR)))))) (And.intro (And.intro (And.intro (And.intro (And.intro @Gq (And.intro @Ir @Fh)) (And.intro (And.intro @GN @Ez) (And.intro @EN @G1))) (And.intro (And.intro (And.intro @Fd @G9) (And.intro @AC @HD)) (And.intro (And.intro @HT @It) (And.intro @Bk @zK)))) (And.intro (And.intro (And.intro @DE (And.intro @zh @Ar)) (And.intro (And.intro @Gx @E3) (And.intro @F7 @yE))) (And.intro (And.intro (And.intro @wL @xq) (And.intro @xS @w8)) (And.intro (And.intro @CS @C9) (And.intro @DP @DT))))) (And.intro (And.intro (And.intro (And.intro @Fk (And.intro @G2 @FF)) (And.intro (And.intro @FZ @EL) (And.intro @FR @F6))) (And.intro (And.intro (And.intro @GO @ER) (And.intro @CR @Hm)) (And.intro (And.intro @Gh @EX) (And.intro @CK @D6)))) (And.intro (And.intro (And.intro (And.intro @w7 @xF) (And.intro @Dc @DG)) (And.intro (And.intro @CW @DX) (And.intro @Em @AQ))) (And.intro (And.intro (And.intro @Be @yf) (And.intro @D4 @HJ)) (And.intro (And.intro @CA @B8) (And.intro @H4 @Ia))))))))))
theorem kf {a b:Prop} (x:a) (y:b):a /\ b:=⟨x,y⟩
theorem go {a b:Prop} (hb:b) (h:a=b:=by simp -implicitDefEqProofs (maxSteps:=5000000) only [Bw,↓reduceIte,reduceCtorEq,Nat.reduceLT,Nat.reduceEqDiff,Nat.reduceAdd,Nat.reduceMul,Nat.reduceSub,Nat.reduceLeDiff,Nat.reduceBEq]<;>exact rfl):a:=Eq.mpr h hb
theorem ge {E a b:Prop} (e:E) (hb:b) (h:E -> a=b:=by intro e;simp -implicitDefEqProofs (maxSteps:=5000000) only [Bw,↓reduceIte,reduceCtorEq,Nat.reduceLT,Nat.reduceEqDiff,Nat.reduceAdd,Nat.reduceMul,Nat.reduceSub,Nat.reduceLeDiff,Nat.reduceBEq,e]<;>exact rfl):a:=Eq.mpr (h e) hb
theorem gq {a b:Prop} (hb:b) (h:b -> a:=by first|with_reducible exact ao (by kernel_rfl)|exact Eq.mpr (by simp -implicitDefEqProofs (maxSteps:=5000000) only [Bw,↓reduceIte,reduceCtorEq,Nat.reduceLT,Nat.reduceEqDiff,Nat.reduceAdd,Nat.reduceMul,Nat.reduceSub,Nat.reduceLeDiff,Nat.reduceBEq]<;>exact rfl)):a:=h hb
theorem gf {E a b:Prop} (e:E) (hb:b) (h:E -> b -> a:=by intro e;first|with_reducible exact ao (by kernel_rfl)|exact Eq.mpr (by simp -implicitDefEqProofs (maxSteps:=5000000) only [Bw,↓reduceIte,reduceCtorEq,Nat.reduceLT,Nat.reduceEqDiff,Nat.reduceAdd,Nat.reduceMul,Nat.reduceSub,Nat.reduceLeDiff,Nat.reduceBEq,e]<;>exact rfl)):a:=h e hb
theorem cA {p a b:Prop} (x:a) (y:b) (h:a -> b -> p:=by intro x y;first|((with_reducible apply ak);exact x;exact y)|((with_reducible apply aD);exact x;exact y)|((with_reducible apply dJ);exact x;exact .inl (by simp [oC,Cq,aI,aQ]);exact y)):p:=h x y
theorem ro {p q:Prop} (h:p:=by simp [oC,Cq,aI,aQ]):p \/ q:=.inl h
theorem sp {p a b:Prop} (ha:a) (hb:b) (h:a -> b -> p:=by with_reducible first|exact lc|exact uX|exact po):p:=h ha hb
theorem wC {st:ai} {n nx:Nat} {env:List (Nat × AV)} {tab:ag} (h:st.n=n /\ (ik st env /\ il st tab) /\ cb nx env /\ cd nx tab:=by (first|((simp only [ik,il,cb,cd,aE.lt,AV.lt,AV.ltL,f9,ai.get,a7,ai.put,↓reduceIte,reduceCtorEq,Nat.reduceLT,Nat.reduceEqDiff,Nat.reduceAdd,Nat.reduceLeDiff,eq_self,implies_true])<;>(repeat' apply And.intro)<;>first|(rw [ic (by omega)];done)|(simp;done)|omega)|fail)):dw st ⟨n,env,tab,nx⟩:=fq h
theorem wE {st:ai} {n nx:Nat} {env:List (Nat × AV)} {tab:ag} {E:Prop} (e:E) (h:E -> st.n=n /\ (ik st env /\ il st tab) /\ cb nx env /\ cd nx tab:=by intro e;(first|((simp only [ik,il,cb,cd,aE.lt,AV.lt,AV.ltL,f9,ai.get,a7,ai.put,↓reduceIte,reduceCtorEq,Nat.reduceLT,Nat.reduceEqDiff,Nat.reduceAdd,Nat.reduceLeDiff,eq_self,implies_true,e])<;>(repeat' apply And.intro)<;>first|(rw [ic (by omega)];done)|(simp;done)|omega)|fail)):dw st ⟨n,env,tab,nx⟩:=fq (h e)
theorem wR {st:ai} {n nx:Nat} {env:List (Nat × AV)} {tab:ag} (ids:List Nat) (h0:ids.Nodup:=by decide) (h:st.n=n /\ (fV st ids env /\ fy st ids tab) /\ cb nx env /\ cd nx tab:=by (first|((simp only [fV,fy,cb,cd,aE.lt,AV.lt,AV.ltL,AV.ren,AV.renL,aE.ren,KF,List.getD_cons_succ,Jh,Kf,f9,ai.get,a7,ai.put,↓reduceIte,reduceCtorEq,Nat.reduceLT,Nat.reduceEqDiff,Nat.reduceAdd,Nat.reduceLeDiff,eq_self,implies_true])<;>(repeat' apply And.intro)<;>first|(rw [ic (by omega)];done)|(simp;done)|omega)|fail)):dw st ⟨n,env,tab,nx⟩:=i8 ids ⟨h0,h⟩
theorem wS {st:ai} {n nx:Nat} {env:List (Nat × AV)} {tab:ag} {E:Prop} (ids:List Nat) (e:E) (h0:ids.Nodup:=by decide) (h:E -> st.n=n /\ (fV st ids env /\ fy st ids tab) /\ cb nx env /\ cd nx tab:=by intro e;(first|((simp only [fV,fy,cb,cd,aE.lt,AV.lt,AV.ltL,AV.ren,AV.renL,aE.ren,KF,List.getD_cons_succ,Jh,Kf,f9,ai.get,a7,ai.put,↓reduceIte,reduceCtorEq,Nat.reduceLT,Nat.reduceEqDiff,Nat.reduceAdd,Nat.reduceLeDiff,eq_self,implies_true,e])<;>(repeat' apply And.intro)<;>first|(rw [ic (by omega)];done)|(simp;done)|omega)|fail)):dw st ⟨n,env,tab,nx⟩:=i8 ids ⟨h0,h e⟩
theorem rI {I:ai -> Prop} {μ:ai -> Nat} {n:Nat} {st st':ai} (hw:dw st st') (hI:I st') (hm:μ st'<n:=by simp only [aw,f9,ai.get,a7,ai.put,↓reduceIte,reduceCtorEq,Nat.reduceLT,Nat.reduceEqDiff,Nat.reduceAdd,Nat.reduceLeDiff,eq_self,implies_true];omega):nb I μ n st:=jU hw hI hm
end
section
theorem bC {P : Program} {f : FuncId} {fn : Func} {c : Code} (hf : P.funcs[f]? = some fn) (hb : fn.body = some c) (hname : (fn.name == "runtime.NumGoroutine") = false) : dR P f := fun args w => by
 have : ¬ fn.name = "runtime.NumGoroutine" := by simpa using hname
 simp [callFunc,Sem.run_bind,hf,this,hb]
theorem xz {w:World} {S:Nat -> Prop} {v u:Value} (h:RT w S v (.c u)):v=u:=by cases h;rfl
theorem xQ {tab:ag} {a:AV} (h:aQ a):dk tab a=a:=by
 cases a<;>first|rfl|exact h.elim
theorem jM {tab:ag}:∀ {l:List AV},aI l -> l.map (dk tab)=l
 | [],_=>rfl
 | a :: l,h=>by rw [JN,xQ h.1,jM h.2]
theorem iE {tab:ag}:∀ {l:List AV},aI l -> l.map (dU tab)=l
 | [],_=>rfl
 | a :: l,h=>by
  have h1:dU tab a=a:=by
   have:=h.1;cases a<;>first|rfl|exact this.elim
  rw [JN,h1,iE h.2]
theorem kX {nx:Nat}:∀ {l:List AV},aI l -> AV.ltL nx l
 | [],_=>trivial
 | a :: l,h=>⟨by
   have:=h.1;cases a<;>first|trivial|exact this.elim,kX h.2⟩
theorem wG {u:Option (Nat × List Nat)} {P:Program} {st:ai} {g:FuncId} {args caps:List AV} {dst:Option Nat} {K:ai -> Prop} {v:Value} (ht:aI caps) (h:ap P g (args.map (dk st.tab) ++ caps) (val v)) (hk:K (st.put dst (.c v))):dr u P st g (args ++ caps) (tJ dst K):=
 ak (by rw [Jl,jM ht];exact h) hk
theorem dJ {u:Option (Nat × List Nat)} {P:Program} {st:ai} {g:FuncId} {args:List AV} {K:AV -> ai -> Prop} {r:AV} (h:ap P g (args.map (dk st.tab)) ⟨r,[],0⟩) (ho:oC args \/ r.plain) (hk:K (r.shift st.next) st):dr u P st g args K:=
 sH h (ho.imp id fun h=>⟨h,trivial⟩) hk
theorem df {α β:Type} (f:α -> β) (l:List α) {k:Nat} (h:k<l.length):(l.take (k+1)).map f=(l.take k).map f ++ [f l[k]]:=by
 rw [List.take_add_one,IU h,Jl];rfl
theorem cQ {u:Option (Nat × List Nat)} {P:Program} {st:ai} {g:FuncId} {args:List AV} {K:AV -> ai -> Prop} {e:TypeId} {sz:Nat} {rows:List (List AV)} (h:ap P g (args.map (dk st.tab)) (cu e sz rows)) (ho:oC args \/ ∀ row ∈ rows,∀ av ∈ row,av.plain) (hk:K (.osl st.next) ⟨st.n,st.env,(st.next,some (.row e sz rows)) :: st.tab,st.next+1⟩):dr u P st g args K:=
 sH h (ho.imp id fun h=>⟨trivial,h,trivial⟩) (by
  have e1:(cu e sz rows).r.shift st.next=.osl st.next:=by simp [cu,AV.shift]
  have e2:(cu e sz rows).tab.shift st.next=[(st.next,some (.row e sz rows))]:=by simp [cu,ag.shift,aE.shift]
  rw [e1,e2];exact hk)
theorem bq {l:List Int}:∀ row ∈ l.map (fun n=>[eI n]),∀ av ∈ row,av.plain:=fun row hr av ha=>by
 obtain ⟨n,_,rfl⟩:=I7.1 hr;simp at ha;subst ha;trivial
theorem jh {α β:Type} (f:β -> α -> β) (b:β) (l:List α) {k:Nat} (h:k<l.length):(l.take (k+1)).foldl f b=f ((l.take k).foldl f b) l[k]:=by
 rw [List.take_add_one,IU h,List.foldl_append];rfl
inductive lQ:AV -> AV -> Prop
 | refl (a:AV):lQ a a
 | nil (sz:Nat):lQ (.c (.slice none 0 0)) (.sl sz [])
def k7:List AV -> List AV -> Prop
 | [],[]=>True
 | a :: l,b :: l'=>lQ a b /\ k7 l l'
 | _,_=>False
def iW:List (List AV) -> List (List AV) -> Prop
 | [],[]=>True
 | a :: l,b :: l'=>k7 a b /\ iW l l'
 | _,_=>False
inductive j7:AV -> AV -> Prop
 | refl (a:AV):j7 a a
 | nil (sz:Nat):j7 (.c (.slice none 0 0)) (.sl sz [])
 | rows {sz:Nat} {r r':List (List AV)} (h:iW r r'):j7 (.sl sz r) (.sl sz r')
def rr:List AV -> List AV -> Prop
 | [],[]=>True
 | a :: l,b :: l'=>j7 a b /\ rr l l'
 | _,_=>False
inductive nc:AV -> AV -> Prop
 | one {a b:AV} (h:j7 a b):nc a b
 | agg {l l':List AV} (h:rr l l'):nc (.agg l) (.agg l')
def jV:List AV -> List AV -> Prop
 | [],[]=>True
 | a :: l,b :: l'=>nc a b /\ jV l l'
 | _,_=>False
theorem lQ.rt {w:World} {S:Nat -> Prop} {v:Value} {a b:AV} (h:lQ a b) (hr:RT w S v a):RT w S v b:=by
 cases h with
 | refl=>exact hr
 | nil sz=>
  rw [xz hr];exact .sl none 0 0 sz [] 0 0 (fun _ _=>undef) rfl (I6 _) (by omega) (fun h=>by omega) (by simp) (fun h=>by omega) (by simp) (by simp)
theorem k7.spec:∀ {l l':List AV},k7 l l' -> l.length=l'.length /\ ∀ (j:Nat) (b:AV),l'[j]? = some b -> ∃ a,l[j]? = some a /\ lQ a b
 | [],[],_=>⟨rfl,fun j b h=>by simp at h⟩
 | a :: l,b :: l',h=>by
  obtain ⟨h1,h2⟩:=k7.spec h.2;refine ⟨by simp [h1],fun j b' h3=>?_⟩
  cases j with
  | zero=>
   simp at h3;subst h3;exact ⟨a,rfl,h.1⟩
  | succ j=>exact h2 j b' (by simpa using h3)
 | [],_ :: _,h=>h.elim
 | _ :: _,[],h=>h.elim
theorem iW.spec:∀ {l l':List (List AV)},iW l l' -> l.length=l'.length /\ ∀ (j:Nat) (b:List AV),l'[j]? = some b -> ∃ a,l[j]? = some a /\ k7 a b
 | [],[],_=>⟨rfl,fun j b h=>by simp at h⟩
 | a :: l,b :: l',h=>by
  obtain ⟨h1,h2⟩:=iW.spec h.2;refine ⟨by simp [h1],fun j b' h3=>?_⟩
  cases j with
  | zero=>
   simp at h3;subst h3;exact ⟨a,rfl,h.1⟩
  | succ j=>exact h2 j b' (by simpa using h3)
 | [],_ :: _,h=>h.elim
 | _ :: _,[],h=>h.elim
theorem j7.rt {w:World} {S:Nat -> Prop} {v:Value} {a b:AV} (h:j7 a b) (hr:RT w S v a):RT w S v b:=by
 cases h with
 | refl=>exact hr
 | nil sz=>exact (lQ.nil sz).rt hr
 | rows h=>
  rename_i sz r r';obtain ⟨hl,hx⟩:=h.spec
  cases hr with
  | sl A n cap sz rows b o U hn hc hm hA hs hcell hone hr=>
   have key:∀ i j row' av',r'[i]? = some row' -> row'[j]? = some av' -> ∃ row av,r[i]? = some row /\ row[j]? = some av /\ lQ av av':=fun i j row' av' h1 h2=>by
    obtain ⟨row,h3,h4⟩:=hx i row' h1;obtain ⟨av,h5,h6⟩:=h4.spec.2 j av' h2;exact ⟨row,av,h3,h5,h6⟩
   refine .sl A n cap sz r' b o U (hn.trans hl) hc hm hA (fun row' hrow=>?_) (fun h0 i j row' av' h1 h2=>?_) (fun i j row' av' h1 h2=>?_) (fun i j row' av' h1 h2=>?_)
   .obtain ⟨i,hi⟩:=JL hrow;obtain ⟨row,h3,h4⟩:=hx i row' hi;rw [<- h4.spec.1];exact hs row (p0 h3)
   .obtain ⟨row,av,h3,h4,_⟩:=key i j row' av' h1 h2;exact hcell h0 i j row av h3 h4
   .obtain ⟨row,av,h3,h4,_⟩:=key i j row' av' h1 h2;exact hone i j row av h3 h4
   .obtain ⟨row,av,h3,h4,h5⟩:=key i j row' av' h1 h2;exact h5.rt (hr i j row av h3 h4)
theorem rr.spec:∀ {l l':List AV},rr l l' -> l.length=l'.length /\ ∀ (j:Nat) (a b:AV),l[j]? = some a -> l'[j]? = some b -> j7 a b
 | [],[],_=>⟨rfl,fun j a b h=>by simp at h⟩
 | a :: l,b :: l',h=>by
  obtain ⟨h1,h2⟩:=rr.spec h.2;refine ⟨by simp [h1],fun j a' b' h3 h4=>?_⟩
  cases j with
  | zero=>
   simp at h3 h4;subst h3 h4;exact h.1
  | succ j=>exact h2 j a' b' (by simpa using h3) (by simpa using h4)
 | [],_ :: _,h=>h.elim
 | _ :: _,[],h=>h.elim
theorem nc.rt {w:World} {S:Nat -> Prop} {v:Value} {a b:AV} (h:nc a b) (hr:RT w S v a):RT w S v b:=by
 cases h with
 | one h=>exact h.rt hr
 | agg h=>
  obtain ⟨hl,hx⟩:=h.spec
  cases hr with
  | agg xs cs hn hc=>
   refine .agg xs _ (hn.trans hl) fun j x av h1 h2=>?_;rename_i l l';have hj:j<l'.length:=(IV.1 h2).1;obtain ⟨a,ha⟩:∃ a,l[j]? = some a:=⟨_,IU (by omega)⟩;exact (hx j a av ha h2).rt (hc j x a h1 ha)
theorem jV.spec:∀ {l l':List AV},jV l l' -> l.length=l'.length /\ ∀ (j:Nat) (a b:AV),l[j]? = some a -> l'[j]? = some b -> nc a b
 | [],[],_=>⟨rfl,fun j a b h=>by simp at h⟩
 | a :: l,b :: l',h=>by
  obtain ⟨h1,h2⟩:=jV.spec h.2;refine ⟨by simp [h1],fun j a' b' h3 h4=>?_⟩
  cases j with
  | zero=>
   simp at h3 h4;subst h3 h4;exact h.1
  | succ j=>exact h2 j a' b' (by simpa using h3) (by simpa using h4)
 | [],_ :: _,h=>h.elim
 | _ :: _,[],h=>h.elim
theorem ap.fits {P:Program} {f:FuncId} {args args':List AV} {R:bS} (h:ap P f args' R) (hf:jV args args'):ap P f args R:=
 ⟨h.1,fun S w vs h1 h2 h3=>h.2 S w vs h1 (h2.trans hf.spec.1) fun j v av h4 h5=>by
  have hj:j<args'.length:=(IV.1 h5).1;obtain ⟨a,ha⟩:∃ a,args[j]? = some a:=⟨_,IU (by rw [hf.spec.1];exact hj)⟩;exact (hf.spec.2 j a av ha h5).rt (h3 j v a h4 ha)⟩
theorem bh.fits {P:Program} {f:FuncId} {args args':List AV} {Post:bS -> Prop} (h:bh P f args' Post) (hf:jV args args'):bh P f args Post:=
 ⟨h.1,fun S w vs h1 h2 h3=>h.2 S w vs h1 (h2.trans hf.spec.1) fun j v av h4 h5=>by
  have hj:j<args'.length:=(IV.1 h5).1;obtain ⟨a,ha⟩:∃ a,args[j]? = some a:=⟨_,IU (by rw [hf.spec.1];exact hj)⟩;exact (hf.spec.2 j a av ha h5).rt (h3 j v a h4 ha)⟩
theorem iB {u:Option (Nat × List Nat)} {P:Program} {st:ai} {g:FuncId} {args:List AV} {dst:Option Nat} {K:ai -> Prop} {Q:Bool -> Prop} (h:bh P g (args.map (dk st.tab)) fun R=>∃ b,R=val (.bool b) /\ Q b) (hk:∀ b,Q b -> K (st.put dst (.c (.bool b)))):dr u P st g args (tJ dst K):=
 dV h fun R ⟨b,hR,hq⟩=>by subst hR;exact ⟨.inr ⟨trivial,trivial⟩,hk b hq⟩
theorem nU {u:Option (Nat × List Nat)} {P:Program} {st:ai} {g:FuncId} {args:List AV} {K:AV -> ai -> Prop} {e:TypeId} {Q:List Int -> Prop} (h:bh P g (args.map (dk st.tab)) fun R=>∃ o:List Int,R=cu e 1 (o.map fun n=>[eI n]) /\ Q o) (hk:∀ o,Q o -> K (.osl st.next) ⟨st.n,st.env,(st.next,some (.row e 1 (o.map fun n=>[eI n]))) :: st.tab,st.next+1⟩):dr u P st g args K:=
 dV h fun R ⟨o,hR,hq⟩=>by
  subst hR;have e1:(cu e 1 (o.map fun n=>[eI n])).r.shift st.next=.osl st.next:=by simp [cu,AV.shift]
  have e2:(cu e 1 (o.map fun n=>[eI n])).tab.shift st.next=[(st.next,some (.row e 1 (o.map fun n=>[eI n])))]:=by simp [cu,ag.shift,aE.shift]
  rw [e1,e2];exact ⟨.inr ⟨trivial,bq,trivial⟩,hk o hq⟩
theorem cU (l:List Int) (n:Int):(l ++ [n]).map (fun n=>[eI n])=l.map (fun n=>[eI n]) ++ [[eI n]]:=by simp
theorem vG (a b:List Int):(a ++ b).map (fun n=>[eI n])=a.map (fun n=>[eI n]) ++ b.map (fun n=>[eI n]):=by simp
section
variable {P:Program} {w:World} {d:Nat} {xs ys:Array Value} {f:Field} {fs:List Field}
theorem Co {x y : Value} {b : Bool} {u : TypeDesc} (hn : f.name ≠ "_") (hu : P.underlying f.type = some u) (hs : ∀ fs, u ≠ .struct fs) (ha : ∀ n e, u ≠ .array n e) (hx : xs[f.offset]? = some x) (hy : ys[f.offset]? = some y) (he : (Op.equalIn d f.type x y).run P w = .ok b w) : (Op.eqFields d xs ys (f :: fs)).run P w = if b = true then (Op.eqFields d xs ys fs).run P w else .ok false w := by
 have hp:∀ (zs:Array Value) (z:Value),zs[f.offset]? = some z -> (part f.type zs f.offset).run P w=.ok z w:=fun zs z hz=>by
  simp only [part,Sem.run_bind,isAgg,run_underlying hu,Result.andThen_ok]
  cases u with
  | struct fs=>exact absurd rfl (hs fs)
  | array n e=>exact absurd rfl (ha n e)
  | _=>simp [hz]
 simp only [Op.eqFields,hn,ne_eq,not_false_eq_true,if_true,Sem.run_bind,hp xs x hx,hp ys y hy,Result.andThen_ok,he];cases b<;>simp
def ne:Value -> Value -> Option Bool
 | .bool a,.bool b=>some (a == b)
 | .int k a,.int k' b=>if k=k' then some (a == b) else none
 | .string a,.string b=>some (a == b)
 | _,_=>none
def pT (P:Program) (t:TypeId):Value -> Bool
 | .bool _=>match P.underlying t with | some .bool=>true | _=>false
 | .int k _=>match P.underlying t with | some (.int _)=>true | _=>false
 | .string _=>match P.underlying t with | some .string=>true | _=>false
 | _=>false
theorem D0 {t:TypeId} {x y:Value} {b:Bool} (h:ne x y=some b) (hx:pT P t x=true):(Op.equalIn (d+1) t x y).run P w=.ok b w /\ ∃ u,P.underlying t=some u /\ (∀ fs,u ≠ .struct fs) /\ ∀ n e,u ≠ .array n e:=by
 cases x<;>cases y<;>simp [ne] at h;all_goals (unfold pT at hx;simp only at hx;split at hx)
 all_goals try cases hx
 .rename_i hu;exact ⟨by simp [Op.equalIn,run_underlying hu,h],_,hu,by simp,by simp⟩
 .rename_i hu;obtain ⟨rfl,rfl⟩:=h;exact ⟨by simp [Op.equalIn,run_underlying hu],_,hu,by simp,by simp⟩
 .rename_i hu;exact ⟨by simp [Op.equalIn,run_underlying hu,h],_,hu,by simp,by simp⟩
def iX:List (Value × Value) -> Option Bool
 | []=>some true
 | (x,y) :: l=>match ne x y,iX l with
  | some b,some c=>some (b && c)
  | _,_=>none
theorem pf : ∀ (fs : List Field) (l : List (Value × Value)) (b : Bool), fs.length = l.length → (∀ (k : Nat) (f : Field) (p : Value × Value), fs[k]? = some f → l[k]? = some p → f.name ≠ "_" ∧ pT P f.type p.1 = true ∧ xs[f.offset]? = some p.1 ∧ ys[f.offset]? = some p.2) → iX l = some b → (Op.eqFields (d + 1) xs ys fs).run P w = .ok b w
 | [],[],b,_,_,h=>by
  cases h;simp [Op.eqFields]
 | f :: fs,(x,y) :: l,b,hl,hf,h=>by
  unfold iX at h;split at h
  .rename_i b1 b2 h1 h2;cases h;obtain ⟨h3,h4,h5,h6⟩:=hf 0 f (x,y) rfl rfl;obtain ⟨h7,u,hu,h8,h9⟩:=D0 (P:=P) (w:=w) (d:=d) h1 h4;rw [Co h3 hu h8 h9 h5 h6 h7,pf fs l b2 (by simpa using hl) (fun k f p hk hp=>hf (k+1) f p (by simpa using hk) (by simpa using hp)) h2];cases b1<;>simp
  .cases h
theorem o6 {t:TypeId} {op:BinOp} (l:List (Value × Value)) {b:Bool} (ht:P.underlying t=some (.struct (P.fieldsOf t))) (hs:P.stoodInHeld t=false) (hg:P.eqGuardType P.depth t=false) (hl:(P.fieldsOf t).toList.length=l.length)
  (hf : ∀ (k : Nat) (f : Field) (p : Value × Value), (P.fieldsOf t).toList[k]? = some f → l[k]? = some p → f.name ≠ "_" ∧ pT P f.type p.1 = true ∧ xs[f.offset]? = some p.1 ∧ ys[f.offset]? = some p.2) (h : iX l = some b) (hop : op = .eql ∨ op = .neq) : p4 P op t (.agg xs) (.agg ys) (.bool (if op matches .eql then b else !b)) := fun w x y => by
 have he:∀ w,(Op.equalIn 10000 t (.agg xs) (.agg ys)).run P w=.ok b w:=fun w=>by
  rw [run_equalIn_agg w 9999 t xs ys ht hs];exact pf (P:=P) (d:=9998) _ l b hl hf h
 rcases hop with rfl|rfl
 .simp only [Sem.run_bind,run_eqGuard_agg w _ t x y xs ys hg,Result.andThen_ok,run_eql_struct,he];rfl
 .simp only [Sem.run_bind,run_eqGuard_agg w _ t x y xs ys hg,Result.andThen_ok,run_neq_struct,he];rfl
end
end
section
theorem sT (x:Int):bits .and .i64 x 1=x % 2:=by
 show IntKind.i64.wrap ((BitVec.ofInt 64 x &&& BitVec.ofInt 64 1).toNat:Int)=_
 have h:(BitVec.ofInt 64 x &&& BitVec.ofInt 64 1).toNat=(x % 2).toNat:=by
  rw [BitVec.toNat_and,show (BitVec.ofInt 64 1).toNat=1 from rfl,Nat.and_one_is_mod,BitVec.toNat_ofInt];omega
 rw [h]
 have:IntKind.i64.wrap (((x % 2).toNat:Nat):Int)=((x % 2).toNat:Int):=by
  simp [IntKind.wrap,IntKind.bits,IntKind.signed];omega
 rw [this];omega
structure az where
 op:Int
 la:Int
 ln:Int
 ra:Int
 rn:Int
 n:Int
 u:Int
structure St where
 vals:List Int
 opn:Int
 don:Int
 did:List Int
 cnt:List Int
def aR (s i:Int):Bool:=decide (0<=i) && decide (i<31) && (s / 2 ^ i.toNat % 2 == 1)
def IE (op c:Int):Bool:=
 if op=3 then decide (c<0) else if op=4 then decide (c<=0) else if op=5 then decide (0<c) else if op=6 then decide (0<=c) else if op=7 then c == 0 else if op=8 then c != 0 else false
def DW (a b:Int):Int:=if a<b then -1 else if b<a then 1 else 0
def oP (vals:List Int) (a n:Int):Option Int:=if a = -1 then some n else if a<0 then none else vals[a.toNat]?
def aM (op:Int):Int:=
 if 1<=op /\ op<=14 then 0 else if op=15 \/ (19<=op /\ op<=24) then 1 else if (16<=op /\ op<=18) \/ op=25 \/ op=26 then 2 else -1
def fa (d:Nat) (op:Int):Option Nat:=
 if aM op=0 then some (d+1) else if aM op=1 /\ 1<=d then some d else if aM op=2 /\ 2<=d then some (d - 1) else none
def bV:List Int -> Nat -> Option Nat
 | [],d=>some d
 | op :: l,d=>match fa d op with
  | some d'=>bV l d'
  | none=>none
def bi (l:List Int):Int:=if l.length=0 then 12 else if 64<l.length then 3 else if bV l 0=some 1 then 0 else 17
def iy (cm:az -> Option Int) (opn don:Int) (x:az) (r:List Bool):Option (List Bool):=
 if x.op=1 \/ x.op=2 then some ((x.op == 1) :: r)
 else if 3<=x.op /\ x.op<=8 then
  match cm x with
  | some c=>some (IE x.op c :: r)
  | none=>none
 else if x.op=9 then some (aR opn x.n :: r)
 else if x.op=10 then some (aR don x.n :: r)
 else if x.op=15 then
  match r with
  | a :: r=>some ((!a) :: r)
  | []=>none
 else if 16<=x.op /\ x.op<=18 then
  match r with
  | b :: a :: r=>some ((if x.op=16 then a && b else if x.op=17 then a || b else !a || b) :: r)
  | _=>none
 else none
def dL (cm:az -> Option Int) (opn don:Int):List az -> List Bool -> Option (List Bool)
 | [],r=>some r
 | x :: l,r=>match iy cm opn don x r with
  | some r'=>dL cm opn don l r'
  | none=>none
def u2 (cm:az -> Option Int) (opn don:Int) (l:List az):Option Bool:=
 if bi (l.map az.op) ≠ 0 then none else
  match dL cm opn don l [] with
  | some (b :: _)=>some b
  | _=>none
def vU (vals:List Int) (x:az):Option Int:=match oP vals x.la x.ln,oP vals x.ra x.rn with
 | some a,some b=>some (DW a b)
 | _,_=>none
def gU (l:List az) (s:St):Option Bool:=u2 (vU s.vals) s.opn s.don l
def DH (o:Option Bool):Bool:=o.getD false
def II (o:Option Bool):Int:=if o.isSome then 0 else 17
end
section
open Go.RowKit Go.ChangeShapes Go.WideShapes Go.Deep
structure eM (α:Type) where
 size:Nat
 at_:World -> (Nat -> Prop) -> List Value -> α -> Prop
 len:∀ {w:World} {S:Nat -> Prop} {cs:List Value} {a:α},at_ w S cs a -> cs.length=size
 keep:∀ {w w':World} {S:Nat -> Prop} {cs:List Value} {a:α},at_ w S cs a -> (∀ p:Addr,S p.block -> w'.cell? p=w.cell? p) -> at_ w' S cs a
 mono:∀ {w:World} {S S':Nat -> Prop} {cs:List Value} {a:α},at_ w S cs a -> (∀ b,S b -> S' b) -> at_ w S' cs a
def eM.one {α:Type} (r:eM α) (w:World) (S:Nat -> Prop) (v:Value) (a:α):Prop:=r.at_ w S [v] a
def dq (k:IntKind):eM Int where
 size:=1
 at_:=fun _ _ cs n=>cs=[.int k n] /\ (Lit.int k n).wf=true
 len:=fun h=>by rw [h.1];rfl
 keep:=fun h _=>h
 mono:=fun h _=>h
def we:eM Bool where
 size:=1
 at_:=fun _ _ cs b=>cs=[.bool b]
 len:=fun h=>by rw [h];rfl
 keep:=fun h _=>h
 mono:=fun h _=>h
def mo:eM ByteArray where
 size:=1
 at_:=fun _ _ cs s=>cs=[.string s] /\ s.size<=9223372036854775807
 len:=fun h=>by rw [h.1];rfl
 keep:=fun h _=>h
 mono:=fun h _=>h
def o5 {α:Type} (r:eM α) (w:World) (S:Nat -> Prop) (b o:Nat) (l:List α):Prop:=
 ∀ i (h:i<l.length),∃ cs,(∀ j u,cs[j]? = some u -> w.cell? ⟨b,o+i * r.size+j,none⟩=some u) /\ r.at_ w S cs l[i]
theorem u4 {α:Type} {r:eM α} {w w':World} {S:Nat -> Prop} {b o:Nat} {l:List α} (h:o5 r w S b o l) (hb:S b) (hk:∀ p:Addr,S p.block -> w'.cell? p=w.cell? p):o5 r w' S b o l:=by
 intro i hi;obtain ⟨cs,h1,h2⟩:=h i hi;exact ⟨cs,fun j u hu=>(hk _ hb).trans (h1 j u hu),r.keep h2 hk⟩
theorem uK {α:Type} {r:eM α} {w:World} {S S':Nat -> Prop} {b o:Nat} {l:List α} (h:o5 r w S b o l) (hB:∀ b,S b -> S' b):o5 r w S' b o l:=by
 intro i hi;obtain ⟨cs,h1,h2⟩:=h i hi;exact ⟨cs,h1,r.mono h2 hB⟩
def aL {α:Type} (r:eM α):eM (List α) where
 size:=1
 at_:=fun w S cs l=>∃ A c,cs=[.slice A l.length c] /\ l.length<=c /\ c<=9223372036854775807 /\ (0<l.length -> ∃ b o,A=some ⟨b,o,none⟩ /\ S b /\ o5 r w S b o l)
 len:=fun ⟨A,c,h,_⟩=>by rw [h];rfl
 keep:=fun ⟨A,c,h1,h2,h3,h4⟩ hk=>⟨A,c,h1,h2,h3,fun hl=>by
  obtain ⟨b,o,e,hb,hr⟩:=h4 hl;exact ⟨b,o,e,hb,u4 hr hb hk⟩⟩
 mono:=fun ⟨A,c,h1,h2,h3,h4⟩ hB=>⟨A,c,h1,h2,h3,fun hl=>by
  obtain ⟨b,o,e,hb,hr⟩:=h4 hl;exact ⟨b,o,e,hB b hb,uK hr hB⟩⟩
def bF {α β:Type} (r:eM α) (s:eM β):eM (α × β) where
 size:=r.size+s.size
 at_:=fun w S cs x=>∃ c1 c2,cs=c1 ++ c2 /\ r.at_ w S c1 x.1 /\ s.at_ w S c2 x.2
 len:=fun ⟨c1,c2,h,h1,h2⟩=>by rw [h,I0,r.len h1,s.len h2]
 keep:=fun ⟨c1,c2,h,h1,h2⟩ hk=>⟨c1,c2,h,r.keep h1 hk,s.keep h2 hk⟩
 mono:=fun ⟨c1,c2,h,h1,h2⟩ hB=>⟨c1,c2,h,r.mono h1 hB,s.mono h2 hB⟩
def nJ:eM Unit where
 size:=0
 at_:=fun _ _ cs _=>cs=[]
 len:=fun h=>by rw [h];rfl
 keep:=fun h _=>h
 mono:=fun h _=>h
theorem eM.below {α:Type} {r:eM α} {w w':World} {S:Nat -> Prop} {B':Nat} {cs:List Value} {a:α} (h:r.at_ w S cs a) (hb:Below B' w w') (hB:∀ b,S b -> b<B'):r.at_ w' S cs a:=
 r.keep h fun p hp=>hb.cell (hB _ hp)
theorem eM.one_below {α:Type} {r:eM α} {w w':World} {S:Nat -> Prop} {B':Nat} {v:Value} {a:α} (h:r.one w S v a) (hb:Below B' w w') (hB:∀ b,S b -> b<B'):r.one w' S v a:=eM.below (r:=r) h hb hB
theorem ci {n:Int} (h:(Lit.int .i64 n).wf=true):-9223372036854775808<=n /\ n<=9223372036854775807:=by
 simpa [Lit.wf,IntKind.min,IntKind.max,IntKind.signed,IntKind.bits] using h
theorem pA {n:Int} (h1:-9223372036854775808<=n) (h2:n<=9223372036854775807):(Lit.int .i64 n).wf=true:=by
 simp [Lit.wf,IntKind.min,IntKind.max,IntKind.signed,IntKind.bits];omega
section
variable {α:Type} {r:eM α} {w w':World} {S:Nat -> Prop} {v:Value} {l:List α}
theorem dZ (h:(aL r).one w S v l):∃ A c,v=.slice A l.length c /\ l.length<=c /\ c<=9223372036854775807:=by
 obtain ⟨A,c,h1,h2,h3,_⟩:=h;exact ⟨A,c,by simpa using h1,h2,h3⟩
theorem eh {A:Option Addr} {n c:Nat} (h:(aL r).one w S (.slice A n c) l) (hn:0<l.length):∃ b o,A=some ⟨b,o,none⟩ /\ S b /\ o5 r w S b o l:=by
 obtain ⟨A',c',h1,_,_,h4⟩:=h;simp at h1;obtain ⟨rfl,_,_⟩:=h1;exact h4 hn
theorem xI (hs:r.size=1) {b o c:Nat} {n:Nat} (h:(aL r).one w S (.slice (some ⟨b,o,none⟩) n c) l) {k:Nat} (hk:k<l.length):∃ u,w.cell? ⟨b,o+k,none⟩=some u /\ r.at_ w S [u] l[k]:=by
 obtain ⟨b',o',e,_,hr⟩:=eh h (by omega);simp at e;obtain ⟨rfl,rfl⟩:=e;obtain ⟨cs,h1,h2⟩:=hr k hk;have hl:=r.len h2;rw [hs] at hl h1
 match cs,hl with
 | [u],_=>exact ⟨u,by simpa using h1 0 u rfl,h2⟩
theorem xf (w:World) (S:Nat -> Prop) (r:eM α):(aL r).one w S (.slice none 0 0) []:=⟨none,0,rfl,I6 _,by omega,fun h=>absurd h (by simp)⟩
theorem xj {base:Nat} {e:TypeId} {size n:Nat} {xs:List Value} (h:w.ownsRow base e size v n xs) (hs:r.size=size) (hn:n=l.length) (hx:∀ i (hi:i<l.length),r.at_ w (fun b=>base<=b /\ b<w.heap.size) ((xs.drop (i * size)).take size) l[i]) :
  (aL r).one w (fun b=>base<=b /\ b<w.heap.size) v l:=by
 subst hn;rcases h.2 with ⟨rfl,h0⟩|⟨g,cap,cur,rfl,hb,hg,hc,hm,hcs,ht⟩
 .refine ⟨none,0,by rw [h0],by omega,by omega,fun hl=>by omega⟩
 .refine ⟨some ⟨g,0,none⟩,cap,rfl,hc,by simpa [maxLen] using hm,fun hl=>⟨g,0,rfl,⟨hb,(Jj.1 hg).1⟩,fun i hi=>⟨_,fun j u hu=>?_,hx i hi⟩⟩⟩
  have hj:j<size:=by
   have:=(IV.1 hu).1;simp at this;omega
  rw [JC,I8 hj,Jy] at hu;have:=h.cells (g:=g) rfl _ u hu;rw [dK] at this;rw [hs,Kl];exact this
theorem uj {base:Nat} {e:TypeId} {n:Nat} (f:α -> Value) (h:w.ownsRow base e 1 v n (l.map f)) (hs:r.size=1) (hx:∀ a ∈ l,r.at_ w (fun b=>base<=b /\ b<w.heap.size) [f a] a):(aL r).one w (fun b=>base<=b /\ b<w.heap.size) v l:=by
 have hn:n=l.length:=by have:=h.1;simp at this;omega
 refine xj h hs hn fun i hi=>?_
 have e:(((l.map f).drop (i * 1)).take 1)=[f l[i]]:=by
  rw [Nat.mul_one,List.drop_eq_getElem_cons (by simpa using hi)];simp
 rw [e];exact hx _ (IZ hi)
theorem lR (h:(aL r).one w S v l) {B':Nat} (hb:Below B' w w') (hB:∀ b,S b -> b<B'):(aL r).one w' S v l:=eM.one_below h hb hB
theorem fL (h:(aL r).one w S v l) {S':Nat -> Prop} (hB:∀ b,S b -> S' b):(aL r).one w S' v l:=eM.mono (aL r) h hB
theorem jH (h:(aL r).one w S v l) (hk:∀ p:Addr,S p.block -> w'.cell? p=w.cell? p):(aL r).one w' S v l:=eM.keep (aL r) h hk
end
theorem DI {w:World} {S:Nat -> Prop} {b o c n:Nat} {l:List Int} (h:(aL (dq .i64)).one w S (.slice (some ⟨b,o,none⟩) n c) l) {k:Nat} (hk:k<l.length) :
  w.cell? ⟨b,o+k,none⟩=some (.int .i64 l[k]) /\ -9223372036854775808<=l[k] /\ l[k]<=9223372036854775807:=by
 obtain ⟨u,h1,h2⟩:=xI (r:=dq .i64) rfl h hk;obtain ⟨h2,h3⟩:=h2;simp at h2;subst h2;exact ⟨h1,ci h3⟩
theorem sQ {α:Type} {p:Nat -> α -> Prop}:∀ {n:Nat},(∀ i,i<n -> ∃ y,p i y) -> ∃ l:List α,l.length=n /\ ∀ i (h:i<l.length),p i l[i]:=by
 intro n
 induction n with
 | zero=>intro _;exact ⟨[],rfl,fun i h=>absurd h (by simp)⟩
 | succ n ih=>
  intro h;obtain ⟨l,h1,h2⟩:=ih fun i hi=>h i (by omega);obtain ⟨y,hy⟩:=h n (by omega);refine ⟨l ++ [y],by simp [h1],fun i hi=>?_⟩;by_cases hin:i<l.length
  .rw [List.getElem_append_left hin];exact h2 i hin
  .have:i=l.length:=by simp at hi;omega
   subst this;rw [List.getElem_append_right (by omega)];simpa [h1] using hy
def cn {α:Type} (P:Program) (t:TypeId) (r:eM α):Prop:=∀ (H:Type) (enc:TypeId × Value -> H) (w:World) (fuel:Nat) (cs:List Value) (x:DataW H × List MemPlace),
 DataW.trod enc P w 0 (fun _=>true) true fuel t cs=some x -> ∃ a,r.at_ w (fun b=>b<w.heap.size) cs a
section
variable {P:Program}
theorem pD {t:TypeId} {k:IntKind} (h:P.underlying t=some (.int k)):cn P t (dq k):=by
 intro H enc w fuel cs x hx;obtain ⟨n,rfl,_,hw⟩:=DataW.trod_int h hx;exact ⟨n,rfl,hw⟩
theorem uh {t:TypeId} (h:P.underlying t=some .bool):cn P t we:=by
 intro H enc w fuel cs x hx;obtain ⟨b,rfl,_⟩:=DataW.trod_bool h hx;exact ⟨b,rfl⟩
theorem bE {α:Type} {t e:TypeId} {r:eM α} (ht:P.underlying t=some (.slice e)) (hs:P.cellsOf e=r.size) (hp:0<r.size) (ho:cn P e r):cn P t (aL r):=by
 intro H enc w fuel cs x hx;rcases Go.Deep.open_slice ht hx with ⟨rfl,_⟩|⟨a,len,cap,m,n,D,Pl,rfl,_,hl,hm,hmm,_,hi⟩
 .exact ⟨[],xf _ _ _⟩
 .simp only [if_true] at hmm;subst hmm
  obtain ⟨l,hll,hl2⟩:=sQ (n:=len) (p:=fun i y=>∃ cs',w.cells? 0 (a.add (i * P.cellsOf e)) (P.cellsOf e)=some cs' /\ r.at_ w (fun b=>b<w.heap.size) cs' y) (fun i hil=>by
   obtain ⟨cs',h1,h2⟩:=hi i (by omega);obtain ⟨y,hy⟩:=ho H enc w n cs' _ h2;exact ⟨y,cs',h1,hy⟩)
  subst hll;refine ⟨l,some a,_,rfl,hl,by simpa [maxLen] using hm,fun h0=>?_⟩;obtain ⟨cs0,h1,h2⟩:=hl2 0 h0;obtain ⟨_,hlen,hc⟩:=World.cells?_some h1;have hc0:=hc 0 (by omega);have hlt:0<cs0.length:=by rw [hlen];omega
  rw [IU hlt] at hc0;have e0:(a.add (0 * P.cellsOf e)).add 0=a:=by simp [Addr.add]
  rw [e0] at hc0;have hb:=World.block_lt_of_cell? w a hc0
  have hsp:a.spot=none:=by
   unfold World.cell? at hc0;split at hc0
   .split at hc0
    .cases hc0
    .rename_i h5;simpa using h5
   .cases hc0
  obtain ⟨b,o,sp⟩:=a;simp only at hsp hb;subst hsp;refine ⟨b,o,rfl,hb,fun i hi'=>?_⟩;obtain ⟨cs',h1,h2⟩:=hl2 i hi';refine ⟨cs',fun j u hu=>?_,h2⟩;obtain ⟨_,hlen',hc'⟩:=World.cells?_some h1
  have hj:j<P.cellsOf e:=by
   have:=(IV.1 hu).1;omega
  have:=hc' j hj;rw [hu,Go.Deep.add_add,hs] at this;rw [<- this]
  congr 1
  unfold Addr.add;split
  .rename_i h6;simp_all
  .simp [Kd]
end
end
section
def aA (n:Int):Prop:=-9223372036854775808<=n /\ n<=9223372036854775807
def az.cells (x:az):List Value:=[.int .i64 x.op,.int .i64 x.la,.int .i64 x.ln,.int .i64 x.ra,.int .i64 x.rn,.int .i64 x.n,.int .i64 x.u]
def az.ok (x:az):Prop:=aA x.op /\ aA x.la /\ aA x.ln /\ aA x.ra /\ aA x.rn /\ aA x.n /\ aA x.u
def kI:eM az where
 size:=7
 at_:=fun _ _ cs x=>cs=x.cells /\ x.ok
 len:=fun h=>by rw [h.1];rfl
 keep:=fun h _=>h
 mono:=fun h _=>h
structure dP where
 op:Int
 ln:ByteArray
 lv:Int
 rn:ByteArray
 rv:Int
 name:ByteArray
 user:ByteArray
 line:Int
 col:Int
def dP.cells (x:dP):List Value:=[.int .i64 x.op,.string x.ln,.int .i64 x.lv,.string x.rn,.int .i64 x.rv,.string x.name,.string x.user,.int .i64 x.line,.int .i64 x.col]
def dP.ok (x:dP):Prop:=aA x.op /\ aA x.lv /\ aA x.rv /\ aA x.line /\ aA x.col /\ x.ln.size<=9223372036854775807 /\ x.rn.size<=9223372036854775807 /\ x.name.size<=9223372036854775807 /\ x.user.size<=9223372036854775807
def rJ:eM dP where
 size:=9
 at_:=fun _ _ cs x=>cs=x.cells /\ x.ok
 len:=fun h=>by rw [h.1];rfl
 keep:=fun h _=>h
 mono:=fun h _=>h
theorem zq {α:Type} {r:eM α} {cells:α -> List Value} {ok:α -> Prop} (hr:∀ w S cs x,r.at_ w S cs x -> cs=cells x /\ ok x) {w:World} {S:Nat -> Prop} {b o c n:Nat} {l:List α} (h:(aL r).one w S (.slice (some ⟨b,o,none⟩) n c) l) {k:Nat} (hk:k<l.length) :
  (∀ j u,(cells l[k])[j]? = some u -> w.cell? ⟨b,o+k * r.size+j,none⟩=some u) /\ ok l[k]:=by
 obtain ⟨b',o',e,_,hrow⟩:=eh h (by omega);simp at e;obtain ⟨rfl,rfl⟩:=e;obtain ⟨cs,h1,h2⟩:=hrow k hk;obtain ⟨rfl,h3⟩:=hr _ _ _ _ h2;exact ⟨h1,h3⟩
theorem yY {w:World} {S:Nat -> Prop} {b o c n:Nat} {l:List dP} (h:(aL rJ).one w S (.slice (some ⟨b,o,none⟩) n c) l) {k:Nat} (hk:k<l.length) :
  (∀ j u,(l[k].cells)[j]? = some u -> w.cell? ⟨b,o+k * 9+j,none⟩=some u) /\ l[k].ok:=zq (r:=rJ) (cells:=dP.cells) (ok:=dP.ok) (fun _ _ _ _ h=>h) h hk
end
section
open Go.RowKit Go.ChangeShapes Go.WideShapes Go.Deep
def ql {α:Type} (P:Program) (fs:List Field) (off:Nat) (r:eM α):Prop:=∀ (H:Type) (enc:TypeId × Value -> H) (w:World) (fuel:Nat) (cs:List Value),
 off+r.size<=cs.length -> (∀ (i:Nat) (f:Field),fs[i]? = some f -> ∃ x,DataW.trod enc P w 0 (fun _=>true) true fuel f.type ((cs.drop f.offset).take (P.cellsOf f.type))=some x) ->
 ∃ a,r.at_ w (fun b=>b<w.heap.size) ((cs.drop off).take r.size) a
theorem cf (P:Program) (off:Nat):ql P [] off nJ:=fun _ _ _ _ _ _ _=>⟨(),by simp [nJ]⟩
theorem ax {α β:Type} {P:Program} {f:Field} {fs:List Field} {off:Nat} {r:eM α} {s:eM β} (ho:f.offset=off) (hc:P.cellsOf f.type=r.size) (h1:cn P f.type r) (h2:ql P fs (off+r.size) s):ql P (f :: fs) off (bF r s):=by
 intro H enc w fuel cs hl hf;have hlr:off+(r.size+s.size)<=cs.length:=hl;obtain ⟨x,hx⟩:=hf 0 f rfl;obtain ⟨a,ha⟩:=h1 H enc w fuel _ _ hx;obtain ⟨b,hb⟩:=h2 H enc w fuel cs (by omega) (fun i g hg=>hf (i+1) g (by simpa using hg));refine ⟨(a,b),_,_,?_,ha,hb⟩;rw [ho,hc];show List.take (r.size+s.size) (cs.drop off)=_;rw [List.take_add,List.drop_drop]
theorem bL {α:Type} {P:Program} {t:TypeId} {fs:Array Field} {r:eM α} (ht:P.underlying t=some (.struct fs)) (hc:P.cellsOf t=r.size) (ho:ql P fs.toList 0 r):cn P t r:=by
 intro H enc w fuel cs x hx;obtain ⟨xs,n,_,_,hl,hlen,hf⟩:=DataW.trod_struct ht hx
 obtain ⟨a,ha⟩:=ho H enc w n cs (by omega) (fun i f hfi=>by
  have hfi':fs[i]? = some f:=by simpa using hfi
  have h1:=hf i f hfi';have hi:i<xs.length:=by rw [hlen];exact (Jj.1 hfi').1
  exact ⟨xs[i],by rw [h1,IU hi]⟩)
 refine ⟨a,?_⟩
 rwa [List.drop_zero,Jp (by omega)] at ha
theorem pO {P:Program} {t:TypeId} (h:P.underlying t=some .string):cn P t mo:=by
 intro H enc w fuel cs x hx;obtain ⟨s,rfl,_,hs⟩:=DataW.trod_string h hx;exact ⟨s,rfl,by simpa [maxLen] using hs⟩
theorem dY {α β:Type} {P:Program} {t:TypeId} {r:eM α} {s:eM β} (h:cn P t r) (f:α -> β) (hf:∀ w S cs a,r.at_ w S cs a -> s.at_ w S cs (f a)):cn P t s:=by
 intro H enc w fuel cs x hx;obtain ⟨a,ha⟩:=h H enc w fuel cs x hx;exact ⟨f a,hf _ _ _ _ ha⟩
theorem oL {P:Program} {W:World} {r:Reach} {b:Nat} {t:TypeId} {fs:Array Field} {v:Value} (ht:P.underlying t=some (.struct fs)) (h:Value.okWide P W r b t v):∃ cs,v=.agg cs /\ cs.size=P.cellsOf t:=by
 simp only [Value.okWide,ht] at h;obtain ⟨cs,h1,h2,_⟩:=h;exact ⟨cs,h1,h2⟩
theorem aJ {α β:Type} {r:eM α} {s:eM β} {w:World} {S:Nat -> Prop} {cs:List Value} {p:α × β} (h:(bF r s).at_ w S cs p):∃ c1 c2,cs=c1 ++ c2 /\ r.at_ w S c1 p.1 /\ s.at_ w S c2 p.2:=h
theorem da {α:Type} {r:eM α} {w:World} {S:Nat -> Prop} {cs:List Value} {a:α} (hr:r.size=1) (h:r.at_ w S cs a):∃ v,cs=[v] /\ r.one w S v a:=by
 have:=r.len h;rw [hr] at this
 match cs,this with
 | [v],_=>exact ⟨v,rfl,h⟩
end
section
structure Gd where
 stage:Int
 event:Int
 cond:List az
structure Ml where
 name:ByteArray
 stage:Int
 event:Int
 cond:List az
 final:Bool
structure Ev where
 name:ByteArray
 role:Int
 stage:Int
 sets:List Int
 times:Int
structure aF where
 attrs:List ByteArray
 inits:List Int
 users:List ByteArray
 roles:List (ByteArray × Int)
 stages:List (ByteArray × Int)
 events:List Ev
 guards:List Gd
 miles:List Ml
 sods:List (Int × Int)
 order:List (Bool × Int)
def AA (s:ByteArray):Prop:=s.size<=9223372036854775807
def dx:eM (ByteArray × Int) where
 size:=2
 at_:=fun _ _ cs x=>cs=[.string x.1,.int .i64 x.2] /\ AA x.1 /\ aA x.2
 len:=fun h=>by rw [h.1];rfl
 keep:=fun h _=>h
 mono:=fun h _=>h
def kF:eM (Int × Int) where
 size:=2
 at_:=fun _ _ cs x=>cs=[.int .i64 x.1,.int .i64 x.2] /\ aA x.1 /\ aA x.2
 len:=fun h=>by rw [h.1];rfl
 keep:=fun h _=>h
 mono:=fun h _=>h
def kM:eM (Bool × Int) where
 size:=2
 at_:=fun _ _ cs x=>cs=[.bool x.1,.int .i64 x.2] /\ aA x.2
 len:=fun h=>by rw [h.1];rfl
 keep:=fun h _=>h
 mono:=fun h _=>h
def HH:eM Gd where
 size:=3
 at_:=fun w S cs g=>∃ cv,cs=[.int .i64 g.stage,.int .i64 g.event,cv] /\ (aL kI).one w S cv g.cond /\ aA g.stage /\ aA g.event
 len:=fun ⟨_,h,_⟩=>by rw [h];rfl
 keep:=fun ⟨cv,h,h2,h3⟩ hk=>⟨cv,h,jH h2 hk,h3⟩
 mono:=fun ⟨cv,h,h2,h3⟩ hB=>⟨cv,h,fL h2 hB,h3⟩
def Iq:eM Ml where
 size:=5
 at_:=fun w S cs g=>∃ cv,cs=[.string g.name,.int .i64 g.stage,.int .i64 g.event,cv,.bool g.final] /\ (aL kI).one w S cv g.cond /\ aA g.stage /\ aA g.event /\ AA g.name
 len:=fun ⟨_,h,_⟩=>by rw [h];rfl
 keep:=fun ⟨cv,h,h2,h3⟩ hk=>⟨cv,h,jH h2 hk,h3⟩
 mono:=fun ⟨cv,h,h2,h3⟩ hB=>⟨cv,h,fL h2 hB,h3⟩
def H6:eM Ev where
 size:=5
 at_:=fun w S cs g=>∃ cv,cs=[.string g.name,.int .i64 g.role,.int .i64 g.stage,cv,.int .i64 g.times] /\ (aL (dq .i64)).one w S cv g.sets /\ aA g.role /\ aA g.stage /\ aA g.times /\ AA g.name
 len:=fun ⟨_,h,_⟩=>by rw [h];rfl
 keep:=fun ⟨cv,h,h2,h3⟩ hk=>⟨cv,h,jH h2 hk,h3⟩
 mono:=fun ⟨cv,h,h2,h3⟩ hB=>⟨cv,h,fL h2 hB,h3⟩
def SI {α:Type} (r:eM α) (w:World) (v:Value) (l:List α):Prop:=(aL r).one w (fun b=>b<w.heap.size) v l
structure MV where
 attrs:Value
 inits:Value
 users:Value
 roles:Value
 stages:Value
 events:Value
 guards:Value
 miles:Value
 sods:Value
 order:Value
abbrev MV.cells (V:MV):Array Value:=#[V.attrs,V.inits,V.users,V.roles,V.stages,V.events,V.guards,V.miles,V.sods,V.order]
structure uR (w:World) (V:MV) (m:aF):Prop where
 attrs:SI mo w V.attrs m.attrs
 inits:SI (dq .i64) w V.inits m.inits
 users:SI mo w V.users m.users
 roles:SI dx w V.roles m.roles
 stages:SI dx w V.stages m.stages
 events:SI H6 w V.events m.events
 guards:SI HH w V.guards m.guards
 miles:SI Iq w V.miles m.miles
 sods:SI kF w V.sods m.sods
 order:SI kM w V.order m.order
end
section
theorem dW (i:Int) (w:World):Calls Tryz.prog 95 #[.int .i64 i] w fun e w'=>e=.returned (.bool (decide (0<=i) && decide (i<31))) /\ w=w':=by
 by_cases h:0<=i<;>(go_enter Tryz.func95,Tryz.ntmps95;go_wp2;go_ret;exact ⟨by congr 2;simp [h]<;>omega,rfl⟩)
theorem nd {a b:Bool} (h:a=b):Ending.returned (.bool a)=.returned (.bool b):=by rw [h]
theorem ms {a b:Int} (h:a=b):Ending.returned (.int .i64 a)=.returned (.int .i64 b):=by rw [h]
theorem DJ (s i:Int) (w:World):Calls Tryz.prog 48 #[.int .i64 s,.int .i64 i] w fun e w'=>e=.returned (.bool (aR s i)) /\ w=w':=by
 by_cases h0:0<=i
 .by_cases h1:i<31
  .have e0:decide (0<=i)=true:=by simp;omega
   have e1:decide (i<31)=true:=by simp;omega
   go_enter Tryz.func48,Tryz.ntmps48
   go_wp2_with (go_at_call 95;refine (dW _ _).mono ?_;rintro e w' ⟨rfl,rfl⟩)
   go_ret
   exact ⟨nd (by unfold aR;rw [sT,e0,e1];rfl),rfl⟩
  .have e0:decide (0<=i)=true:=by simp;omega
   have e1:decide (i<31)=false:=by simp;omega
   go_enter Tryz.func48,Tryz.ntmps48
   go_wp2_with (go_at_call 95;refine (dW _ _).mono ?_;rintro e w' ⟨rfl,rfl⟩)
   go_ret
   exact ⟨nd (by unfold aR;rw [e0,e1];rfl),rfl⟩
 .have e0:decide (0<=i)=false:=by simp;omega
  go_enter Tryz.func48,Tryz.ntmps48
  go_wp2_with (go_at_call 95;refine (dW _ _).mono ?_;rintro e w' ⟨rfl,rfl⟩)
  go_ret
  exact ⟨nd (by unfold aR;rw [e0];rfl),rfl⟩
theorem je (op:Int) (w:World):Calls Tryz.prog 183 #[.int .i64 op] w fun e w'=>e=.returned (.int .i64 (aM op)) /\ w=w':=by
 have key:(1<=op /\ op<=14) \/ op=15 \/ (19<=op /\ op<=24) \/ (16<=op /\ op<=18) \/ op=25 \/ op=26 \/ op<1 \/ 26<op:=by omega
 rcases key with ⟨h1,h2⟩|rfl|⟨h1,h2⟩|⟨h1,h2⟩|rfl|rfl|h1|h1
 all_goals
  go_enter Tryz.func183,Tryz.ntmps183
  go_wp2
  all_goals go_ret
  all_goals refine ⟨ms ?_,rfl⟩
  all_goals (unfold aM;(repeat' split)<;>first|rfl|omega)
end
section
def ii (s:Int):Nat:=(s % 2147483648).toNat
theorem cC (s:Int):ii s<2 ^ 31:=by unfold ii;omega
theorem m9 (n:Nat) (h:n<2 ^ 31):ii (n:Int)=n:=by unfold ii;omega
def ba (s i:Int):Int:=if 0<=i /\ i<31 then ((ii s ||| 2 ^ i.toNat:Nat):Int) else (ii s:Int)
def br (s i:Int):Int:=if 0<=i /\ i<31 then ((ii s ^^^ (ii s &&& 2 ^ i.toNat):Nat):Int) else (ii s:Int)
theorem ct (s:Int) (j:Nat) (hj:j<31):aR s (j:Int)=(ii s).testBit j:=by
 have h1:aR s (j:Int)=(s / 2 ^ j % 2 == 1):=by
  unfold aR;rw [show decide (0<=(j:Int))=true by simp,show decide ((j:Int)<31)=true by simp;omega];rfl
 rw [h1,Nat.testBit_eq_decide_div_mod_eq]
 have hs:s=2 ^ j * (2 ^ (30 - j) * 2 * (s / 2147483648))+s % 2147483648:=by
  have e:(2:Int) ^ j * (2 ^ (30 - j) * 2 * (s / 2147483648))=(2 ^ j * 2 ^ (30 - j) * 2) * (s / 2147483648):=by
   rw [<- Int.mul_assoc,<- Int.mul_assoc]
  rw [e,<- Int.pow_add,show j+(30 - j)=30 by omega];have:=Int.mul_ediv_add_emod s 2147483648;omega
 have h2:s / 2 ^ j % 2=((ii s / 2 ^ j % 2:Nat):Int):=by
  have hr:((ii s:Nat):Int)=s % 2147483648:=by unfold ii;omega
  rw [Int.natCast_emod,Int.natCast_ediv,hr];have hp:((2 ^ j:Nat):Int)=2 ^ j:=by simp
  rw [hp]
  conv=>lhs;rw [hs]
  rw [Int.add_comm,Int.add_mul_ediv_left _ _ (by have:(0:Int)<2 ^ j:=Int.pow_pos (by omega);omega)];rw [show (2:Int) ^ (30 - j) * 2 * (s / 2147483648)=2 * (2 ^ (30 - j) * (s / 2147483648)) by rw [Int.mul_comm ((2:Int) ^ (30 - j)) 2,Int.mul_assoc]];omega
 rw [h2];generalize ii s / 2 ^ j % 2=n;rw [KR];simp;omega
theorem gv (s j:Int) (hj:¬ (0<=j /\ j<31)):aR s j=false:=by
 unfold aR;by_cases h:0<=j
 .rw [show decide (j<31)=false by simp;omega];simp
 .rw [show decide (0<=j)=false by simp;omega];rfl
theorem er (s i j:Int):aR (ba s i) j=((decide (0<=i /\ i<31) && (j == i)) || aR s j):=by
 by_cases hj:0<=j /\ j<31
 .obtain ⟨n,rfl⟩:∃ n:Nat,j=(n:Int):=⟨j.toNat,by omega⟩;unfold ba;by_cases hi:0<=i /\ i<31
  .obtain ⟨k,rfl⟩:∃ k:Nat,i=(k:Int):=⟨i.toNat,by omega⟩;have hl:ii s ||| 2 ^ k<2 ^ 31:=KE (cC s) (J8 (by omega) (by omega));rw [I8 hi,J4,ct _ _ (by omega),m9 _ hl,Nat.testBit_or,ct _ _ (by omega),Nat.testBit_two_pow,Bool.or_comm]
   congr 1
   rw [KR];simp;omega
  .rw [I4 hi,ct _ _ (by omega),m9 _ (cC s),ct _ _ (by omega)];simp [hi]
 .rw [gv _ _ hj,gv _ _ hj,Bool.or_false];symm;rw [Jt];by_cases hi:0<=i /\ i<31
  .right;exact Jz.2 (by omega)
  .left;simpa using hi
theorem db (s i j:Int):aR (br s i) j=(!(j == i) && aR s j):=by
 by_cases hj:0<=j /\ j<31
 .obtain ⟨n,rfl⟩:∃ n:Nat,j=(n:Int):=⟨j.toNat,by omega⟩;unfold br;by_cases hi:0<=i /\ i<31
  .obtain ⟨k,rfl⟩:∃ k:Nat,i=(k:Int):=⟨i.toNat,by omega⟩;have hl:ii s ^^^ (ii s &&& 2 ^ k)<2 ^ 31:=Nat.xor_lt_two_pow (cC s) (Nat.lt_of_le_of_lt Nat.and_le_left (cC s));rw [I8 hi,J4,ct _ _ (by omega),m9 _ hl,Nat.testBit_xor,Nat.testBit_and,Nat.testBit_two_pow,ct _ _ (by omega)];by_cases e:n=k
   .subst e;cases (ii s).testBit n<;>simp
   .rw [show ((n:Int) == (k:Int))=false from Jz.2 (by omega),show decide (k=n)=false by simp;omega];simp
  .rw [I4 hi,ct _ _ (by omega),m9 _ (cC s),ct _ _ (by omega),show ((n:Int) == i)=false from Jz.2 (by omega)];rfl
 .rw [gv _ _ hj,gv _ _ hj,Bool.and_false]
theorem lU (a:Nat) (ha:a<2 ^ 64):(BitVec.ofInt 64 (a:Int)).toNat=a:=by
 rw [BitVec.ofInt_natCast,BitVec.toNat_ofNat];exact Nat.mod_eq_of_lt ha
theorem rX (n:Nat) (h:n<2 ^ 63):IntKind.i64.wrap (n:Int)=(n:Int):=by
 simp [IntKind.wrap,IntKind.bits,IntKind.signed];omega
theorem qh (s:Int):bits .and .i64 s 2147483647=(ii s:Int):=by
 show IntKind.i64.wrap ((BitVec.ofInt 64 s &&& BitVec.ofInt 64 2147483647).toNat:Int)=_
 have h:(BitVec.ofInt 64 s &&& BitVec.ofInt 64 2147483647).toNat=ii s:=by
  rw [BitVec.toNat_and,show (BitVec.ofInt 64 2147483647).toNat=2 ^ 31 - 1 from rfl,Nat.and_two_pow_sub_one_eq_mod,BitVec.toNat_ofInt];unfold ii;omega
 rw [h];exact rX _ (Nat.lt_trans (cC s) (by decide))
theorem GW (a b:Nat) (ha:a<2 ^ 62) (hb:b<2 ^ 62):bits .or .i64 (a:Int) (b:Int)=((a ||| b:Nat):Int):=by
 show IntKind.i64.wrap ((BitVec.ofInt 64 (a:Int) ||| BitVec.ofInt 64 (b:Int)).toNat:Int)=_;rw [BitVec.toNat_or,lU a (by omega),lU b (by omega)];exact rX _ (Nat.lt_trans (KE ha hb) (by decide))
theorem BV (i:Int) (h0:0<=i) (h1:i<31):wrap64 (2 ^ i.toNat)=((2 ^ i.toNat:Nat):Int):=by
 have h2:(2:Nat) ^ i.toNat<2 ^ 31:=J8 (by omega) (by omega);have e:(2:Int) ^ i.toNat=((2 ^ i.toNat:Nat):Int):=by simp
 rw [e];clear e;generalize (2:Nat) ^ i.toNat=n at *;exact IntWalk.wrap64_in _ ⟨by omega,by omega⟩
theorem AJ (s i:Int) (w:World):Calls Tryz.prog 43 #[.int .i64 s,.int .i64 i] w fun e w'=>e=.returned (.int .i64 (ba s i)) /\ w=w':=by
 unfold ba;by_cases h0:0<=i
 .by_cases h1:i<31
  .have e0:decide (0<=i)=true:=by simp;omega
   have e1:decide (i<31)=true:=by simp;omega
   rw [I8 ⟨h0,h1⟩]
   go_enter Tryz.func43,Tryz.ntmps43
   go_wp2_with (go_at_call 95;refine (dW _ _).mono ?_;rintro e w' ⟨rfl,rfl⟩)
   go_ret
   exact ⟨ms (by rw [qh,BV i h0 h1,GW _ _ (Nat.lt_trans (cC s) (by decide)) (J8 (by omega) (by omega))]),rfl⟩
  .have e0:decide (0<=i)=true:=by simp;omega
   have e1:decide (i<31)=false:=by simp;omega
   rw [I4 (by omega)]
   go_enter Tryz.func43,Tryz.ntmps43
   go_wp2_with (go_at_call 95;refine (dW _ _).mono ?_;rintro e w' ⟨rfl,rfl⟩)
   go_ret
   exact ⟨ms (qh s),rfl⟩
 .have e0:decide (0<=i)=false:=by simp;omega
  rw [I4 (by omega)]
  go_enter Tryz.func43,Tryz.ntmps43
  go_wp2_with (go_at_call 95;refine (dW _ _).mono ?_;rintro e w' ⟨rfl,rfl⟩)
  go_ret
  exact ⟨ms (qh s),rfl⟩
end
end
section
section
abbrev cV (x:az):List AV:=[eI x.op,eI x.la,eI x.ln,eI x.ra,eI x.rn,eI x.n,eI x.u]
abbrev aV (l:List az):AV:=.sl 7 (l.map cV)
abbrev xL (g:Gd):List AV:=[eI g.stage,eI g.event,aV g.cond]
abbrev ri (g:Ml):List AV:=[eS g.name,eI g.stage,eI g.event,aV g.cond,eB g.final]
abbrev mt (g:Ev):List AV:=[eS g.name,eI g.role,eI g.stage,sI g.sets,eI g.times]
abbrev rh (p:ByteArray × Int):List AV:=[eS p.1,eI p.2]
abbrev rj (p:Int × Int):List AV:=[eI p.1,eI p.2]
abbrev dS (p:Bool × Int):List AV:=[eB p.1,eI p.2]
abbrev am (m:aF):List AV:=[.sl 1 (m.attrs.map fun s=>[eS s]),sI m.inits,.sl 1 (m.users.map fun s=>[eS s]),.sl 2 (m.roles.map rh),.sl 2 (m.stages.map rh),.sl 5 (m.events.map mt),.sl 3 (m.guards.map xL),.sl 5 (m.miles.map ri),.sl 2 (m.sods.map rj),.sl 2 (m.order.map dS)]
abbrev cJ (s:St):List AV:=[sI s.vals,eI s.opn,eI s.don,sI s.did,sI s.cnt]
def pars (m:aF):List Int:=m.stages.map (·.2)
def nF (m:aF):Prop:=(∀ g ∈ m.guards,∀ x ∈ g.cond,x.ok) /\ ∀ g ∈ m.miles,∀ x ∈ g.cond,x.ok
theorem ae:Tryz.prog.follows .mixedOrders=true:=by kernel_rfl
def u0 (m:aF):Prop:=m.guards.length<=14 /\ m.miles.length<=10 /\ m.stages.length<=10 /\ m.events.length<=10 /\ m.attrs.length<=10 /\ m.users.length<=10 /\ m.roles.length<=10 /\ m.sods.length<=10 /\ m.order.length<=40 /\ m.inits.length<=10
structure iC (m:aF):Prop where
 sizes:u0 m
 guards:∀ g ∈ m.guards,g.cond.length<=80
 miles:∀ g ∈ m.miles,g.cond.length<=80
 events:∀ g ∈ m.events,g.sets.length<=10
def Hh (s:St):Prop:=s.vals.length<=150 /\ s.did.length<=150 /\ s.cnt.length<=150
theorem wT (m:aF):bh Tryz.prog 4 [.agg (am m)] fun R=>∃ b,R=val (.bool b) /\ (b=false -> iC m):=by
 refine ay ae Tryz.func4 rfl (by decide) Tryz.ntmps4 Tryz.results4 rfl ?_
 repeat' first|refine go ?_|decide|refine sp ?_ ?_<;>intro _
 all_goals first|with_reducible exact co ⟨true,rfl,fun h=>by cases h⟩|skip
 have hS:u0 m:=by simp_all [u0];omega
 obtain ⟨h1,h2,h3,h4,h5,h6,h7,h8,h9,h10⟩:=id hS;refine af (fun st=>∃ k:Nat,k<=m.guards.length /\ (∀ i (h:i<m.guards.length),i<k -> m.guards[i].cond.length<=80) /\ st=⟨109,[(1,.op 0 0 0),(3,eI (k:Int))],[(0,some (.box 32 (am m)))],1⟩) (fun st=>m.guards.length - aw st 3) ⟨_,wC,0,IY _,?_,rfl⟩ ?_
 .exact fun i h h2=>absurd h2 (by omega)
 rintro _ ⟨k,hk,hg,rfl⟩;by_cases hlt:k<m.guards.length
 .repeat' first|refine go ?_|simp only [ac,hlt]|decide|refine sp ?_ ?_<;>intro _
  .with_reducible exact co ⟨true,rfl,fun h=>by cases h⟩
  .rename_i hc;refine rI wC ⟨k+1,by omega,fun i h h2=>?_,rfl⟩;rcases Jk i k with h3|h3
   .exact hg i h h3
   .obtain rfl:i=k:=by omega
    simp at hc;omega
 repeat' first|decide|refine go ?_|simp only [ac,hlt]
 refine af (fun st=>∃ q:Nat,q<=m.miles.length /\ (∀ i (h:i<m.miles.length),i<q -> m.miles[i].cond.length<=80) /\ st=⟨109,[(1,.op 0 0 0),(4,eI (q:Int))],[(0,some (.box 32 (am m)))],1⟩) (fun st=>m.miles.length - aw st 4) ⟨_,wC,0,IY _,?_,rfl⟩ ?_
 .exact fun i h h2=>absurd h2 (by omega)
 rintro _ ⟨q,hq,hm,rfl⟩;by_cases hlt2:q<m.miles.length
 .repeat' first|refine go ?_|simp only [ac,hlt2]|decide|refine sp ?_ ?_<;>intro _
  .with_reducible exact co ⟨true,rfl,fun h=>by cases h⟩
  .rename_i hc;refine rI wC ⟨q+1,by omega,fun i h h2=>?_,rfl⟩;rcases Jk i q with h3|h3
   .exact hm i h h3
   .obtain rfl:i=q:=by omega
    simp at hc;omega
 repeat' first|decide|refine go ?_|simp only [ac,hlt2]
 refine af (fun st=>∃ r:Nat,r<=m.events.length /\ (∀ i (h:i<m.events.length),i<r -> m.events[i].sets.length<=10) /\ st=⟨109,[(1,.op 0 0 0),(5,eI (r:Int))],[(0,some (.box 32 (am m)))],1⟩) (fun st=>m.events.length - aw st 5) ⟨_,wC,0,IY _,?_,rfl⟩ ?_
 .exact fun i h h2=>absurd h2 (by omega)
 rintro _ ⟨r,hr,he,rfl⟩;by_cases hlt3:r<m.events.length
 .repeat' first|refine go ?_|simp only [ac,hlt3]|decide|refine sp ?_ ?_<;>intro _
  .with_reducible exact co ⟨true,rfl,fun h=>by cases h⟩
  .rename_i hc;refine rI wC ⟨r+1,by omega,fun i h h2=>?_,rfl⟩;rcases Jk i r with h3|h3
   .exact he i h h3
   .obtain rfl:i=r:=by omega
    simp at hc;omega
 repeat' first|decide|refine go ?_|simp only [ac,hlt3]
 refine co ⟨false,rfl,fun _=>⟨hS,fun g hg'=>?_,fun g hg'=>?_,fun g hg'=>?_⟩⟩
 .obtain ⟨i,hi,rfl⟩:=Jw hg';exact hg i hi (by omega)
 .obtain ⟨i,hi,rfl⟩:=Jw hg';exact hm i hi (by omega)
 .obtain ⟨i,hi,rfl⟩:=Jw hg';exact he i hi (by omega)
def b7 (n most:Int):Bool:=decide (0<=n) && decide (n<most)
theorem oQ (n most:Int):ap Tryz.prog 27 [eI n,eI most] (val (.bool (b7 n most))):=by
 refine aa ae Tryz.func27 rfl (by decide) Tryz.ntmps27 Tryz.results27 rfl (aq _) ?_
 repeat' first|decide|refine go ?_
 unfold b7
 with_reducible refine po (fun h=>?_) (fun h=>?_)<;>simp -implicitDefEqProofs (maxSteps:=5000000) only [Bw,↓reduceIte,reduceCtorEq,Nat.reduceLT,Nat.reduceEqDiff,Nat.reduceAdd,Nat.reduceMul,Nat.reduceSub,Nat.reduceLeDiff,Nat.reduceBEq]<;>simp at h<;>simp [h]<;>omega
theorem Fx (m:aF) (l:List Int) (hl:l.length<=1000000) (b:Bool) (hb:b=true ↔ ∀ i (h:i<l.length),b7 l[i] m.attrs.length=true /\ ∀ j (h:j<i),l[j] ≠ l[i]):ap Tryz.prog 28 [.agg (am m),sI l] (val (.bool b)):=by
 refine aa ae Tryz.func28 rfl (by decide) Tryz.ntmps28 Tryz.results28 rfl (aq _) ?_
 repeat' first|decide|refine go ?_
 refine af (fun st=>∃ k:Nat,k<=l.length /\ (∀ i (h:i<l.length),i<k -> b7 l[i] m.attrs.length=true /\ ∀ j (h:j<i),l[j] ≠ l[i]) /\ st=⟨36,[(1,sI l),(2,.op 0 0 0),(5,eI k)],[(0,some (.box 32 (am m)))],1⟩) (fun st=>l.length - aw st 5)
  ⟨_,wC,0,IY _,fun i h1 h2=>absurd h2 (by omega),rfl⟩ ?_
 rintro _ ⟨k,hk,hI,rfl⟩;by_cases hlt:k<l.length
 .repeat' first|decide|refine go ?_|simp only [ac,hlt]
  refine ao (by kernel_rfl) ?_
  repeat' first|decide|refine go ?_|simp only [ac,hlt]
  refine aD (oQ _ _) ?_
  repeat' first|decide|refine go ?_|simp only [ac,hlt]
  with_reducible refine lc (fun hin=>?_) (fun hin=>?_)<;>simp -implicitDefEqProofs (maxSteps:=5000000) only [Bw,↓reduceIte,reduceCtorEq,Nat.reduceLT,Nat.reduceEqDiff,Nat.reduceAdd,Nat.reduceMul,Nat.reduceSub,Nat.reduceLeDiff,Nat.reduceBEq,ac,hlt]
  .simp at hin;symm;rw [JK];intro hbt;have:=(hb.1 hbt k hlt).1;rw [hin] at this;cases this
  .simp at hin
   refine af (fun st=>∃ q:Nat,q<=k /\ (∀ j (h:j<k),j<q -> l[j] ≠ l[k]) /\ st=⟨36,[(1,sI l),(2,.op 0 0 0),(5,eI k),(6,eI q)],[(0,some (.box 32 (am m)))],1⟩) (fun st=>k - aw st 6)
    ⟨_,wC,0,IY _,fun i h1 h2=>absurd h2 (by omega),rfl⟩ ?_
   rintro _ ⟨q,hq,hJ,rfl⟩;by_cases hqk:q<k
   .have hql:q<l.length:=by omega
    repeat' first|decide|refine go ?_|simp only [ac,hlt,hqk,hql]
    refine ao (by kernel_rfl) ?_
    repeat' first|decide|refine go ?_|simp only [ac,hlt,hqk,hql]
    with_reducible refine lc (fun he=>?_) (fun he=>?_)<;>simp -implicitDefEqProofs (maxSteps:=5000000) only [Bw,↓reduceIte,reduceCtorEq,Nat.reduceLT,Nat.reduceEqDiff,Nat.reduceAdd,Nat.reduceMul,Nat.reduceSub,Nat.reduceLeDiff,Nat.reduceBEq,ac,hlt,hqk,hql]
    .symm;rw [JK];intro hbt;exact (hb.1 hbt k hlt).2 q hqk (by simpa using he)
    .refine jU wC ⟨q+1,by omega,fun j h1 h2=>?_,rfl⟩ ?_
     .simp at he;rcases Jk j q with h3|h3
      .exact hJ j h1 h3
      .obtain rfl:j=q:=by omega
       exact he
     .exact (by simp only [aw,f9,ai.get,a7,ai.put,↓reduceIte,reduceCtorEq,Nat.reduceLT,Nat.reduceEqDiff,Nat.reduceAdd,Nat.reduceLeDiff,eq_self,implies_true];omega)
   .repeat' first|decide|refine go ?_|simp only [ac,hlt,hqk]
    refine jU wC ⟨k+1,by omega,fun j h1 h2=>?_,rfl⟩ ?_
    .rcases Jk j k with h3 | h3
     .exact hI j h1 h3
     .obtain rfl:j=k:=by omega
      exact ⟨hin,fun i hi=>hJ i hi (by omega)⟩
    .exact (by simp only [aw,f9,ai.get,a7,ai.put,↓reduceIte,reduceCtorEq,Nat.reduceLT,Nat.reduceEqDiff,Nat.reduceAdd,Nat.reduceLeDiff,eq_self,implies_true];omega)
 .repeat' first|decide|refine go ?_|simp only [ac,hlt]
  symm;exact hb.2 fun i h=>hI i h (by omega)
end
section
theorem lI:∀ (n:Nat) (l:List Int),l.Nodup -> (∀ x ∈ l,0<=x /\ x<(n:Int)) -> l.length<=n:=by
 intro n
 induction n with
 | zero=>
  intro l _ h
  cases l with
  | nil=>simp
  | cons x l=>have:=h x (by simp);omega
 | succ n ih=>
  intro l hn h;by_cases hm:(n:Int) ∈ l
  .have h1:=ih (l.erase (n:Int)) (hn.erase _) (fun x hx=>by
    have:=(hn.mem_erase_iff).1 hx;have:=h x this.2;omega)
   rw [List.length_erase_of_mem hm] at h1;omega
  .have:=ih l hn (fun x hx=>by
    have h2:=h x hx;have:x ≠ (n:Int):=fun e=>hm (e ▸ hx);omega)
   omega
def bw (l:List Int) (i:Int):Prop:=0<=i /\ i<(l.length:Int)
instance (l:List Int) (i:Int):Decidable (bw l i):=by unfold bw;infer_instance
def jJ (l:List Int) (i:Int):Int:=if bw l i then i else -1
def cM (l:List Int) (i:Int):Int:=if bw l i then jJ l (l.getD i.toNat 0) else -1
def cZ (l:List Int) (i:Int):Nat -> Int
 | 0=>jJ l i
 | k+1=>cM l (cZ l i k)
def vD (l:List Int) (i:Int):Nat -> Int -> List Int -> List Int
 | 0,_,out=>out
 | f+1,p,out=>if cM l p = -1 \/ cM l p=i \/ cM l p ∈ out then out else vD l i f (cM l p) (out ++ [cM l p])
def a8 (l:List Int) (i:Int):List Int:=vD l i l.length i []
theorem cR (l:List Int) (i:Int):(bw l i /\ jJ l i=i) \/ (¬ bw l i /\ jJ l i = -1):=by
 unfold jJ;split<;>simp [*]
theorem vX (l:List Int) (i:Int):jJ l i = -1 \/ bw l (jJ l i):=by
 rcases cR l i with ⟨h,e⟩|⟨_,e⟩<;>rw [e]
 .exact .inr h
 .exact .inl rfl
theorem m5 (l:List Int) (i:Int):cM l i = -1 \/ bw l (cM l i):=by
 unfold cM;split
 .exact vX _ _
 .exact .inl rfl
theorem rE (l:List Int) (i:Int):cM l (jJ l i)=cM l i:=by
 rcases cR l i with ⟨h,e⟩|⟨h,e⟩
 .rw [e]
 .rw [e];unfold cM;rw [I4 h,I4 (by simp [bw])]
theorem kZ (l:List Int):cM l (-1) = -1:=by unfold cM;rw [I4 (by simp [bw])]
theorem Fq (l:List Int) (i:Int):∀ k,cZ l i k = -1 \/ bw l (cZ l i k)
 | 0=>vX _ _
 | _+1=>m5 _ _
theorem tl (l:List Int) (i:Int) (k:Nat) (h:cZ l i k = -1):∀ d,cZ l i (k+d) = -1
 | 0=>h
 | d+1=>by rw [<- Kd,cZ,tl l i k h d,kZ]
theorem jd (l:List Int) (i:Int):cZ l i 1=cM l i:=rE l i
structure iz (l:List Int) (i:Int) (m:Nat) (p:Int) (out:List Int):Prop where
 len:out.length=m
 eq:∀ j,j<m -> out[j]? = some (cZ l i (j+1))
 cur:cM l p=cZ l i (m+1)
 nodup:out.Nodup
 at_:∀ x ∈ out,bw l x
 not:i ∉ out
 room:m<=l.length
 rest:vD l i (l.length - m) p out=a8 l i
theorem iz.start (l:List Int) (i:Int):iz l i 0 i []:=
 ⟨rfl,fun j h=>by omega,(jd l i).symm,List.nodup_nil,fun x h=>by simp at h,by simp,by omega,rfl⟩
def jm (l:List Int) (i:Int) (p:Int) (out:List Int):Prop:=cM l p = -1 \/ cM l p=i \/ cM l p ∈ out
instance (l:List Int) (i p:Int) (out:List Int):Decidable (jm l i p out):=by unfold jm;infer_instance
theorem iz.stop {l:List Int} {i:Int} {m:Nat} {p:Int} {out:List Int} (h:iz l i m p out) (hs:jm l i p out):out=a8 l i:=by
 rw [<- h.rest]
 cases l.length - m with
 | zero=>rfl
 | succ f=>rw [vD];exact (I8 hs).symm
theorem iz.next {l:List Int} {i:Int} {m:Nat} {p:Int} {out:List Int} (h:iz l i m p out) (hs:¬ jm l i p out):iz l i (m+1) (cM l p) (out ++ [cM l p]) /\ m+1<=l.length:=by
 unfold jm at hs;simp only [not_or] at hs;have hat:bw l (cM l p):=(m5 l p).resolve_left hs.1
 have hnd:(out ++ [cM l p]).Nodup:=by
  rw [List.nodup_append];refine ⟨h.nodup,by simp,fun a ha b hb e=>?_⟩;simp at hb;subst hb;subst e;exact hs.2.2 ha
 have hall:∀ x ∈ out ++ [cM l p],bw l x:=by
  intro x hx;rcases Ja.1 hx with hx|hx
  .exact h.at_ x hx
  .simp at hx;subst hx;exact hat
 have hlen:m+1<=l.length:=by
  have:=lI l.length _ hnd hall;simp [h.len] at this;exact this
 refine ⟨⟨by simp [h.len],fun j hj=>?_,by rw [show cZ l i (m+1+1)=cM l (cZ l i (m+1)) from rfl,h.cur],hnd,hall,?_,hlen,?_⟩,hlen⟩
 .by_cases hjm:j<m
  .rw [JD (by rw [h.len];exact hjm)];exact h.eq j hjm
  .have:j=m:=by omega
   subst this;rw [JG (by rw [h.len];omega),h.len,Nat.sub_self];simp [h.cur]
 .intro hi;rcases Ja.1 hi with hi|hi
  .exact h.not hi
  .simp at hi;exact hs.2.1 hi.symm
 .have:=h.rest;rw [show l.length - m=(l.length - (m+1))+1 from by omega,vD,I4 (by simp only [not_or];exact hs)] at this;exact this
theorem gZ (l:List Int) (i:Int):∃ m p,iz l i m p (a8 l i) /\ jm l i p (a8 l i):=by
 have key:∀ (f m:Nat) (p:Int) (out:List Int),iz l i m p out -> l.length+1 - m<=f -> ∃ m p,iz l i m p (a8 l i) /\ jm l i p (a8 l i):=by
  intro f
  induction f with
  | zero=>intro m p out h hf;have:=h.room;omega
  | succ f ih=>
   intro m p out h hf;by_cases hs:jm l i p out
   .have e:=h.stop hs;rw [e] at h hs;exact ⟨m,p,h,hs⟩
   .have:=(h.next hs).1;exact ih _ _ _ this (by omega)
 exact key _ 0 i [] (iz.start l i) (I6 _)
def f4 (l:List Int) (i:Int):Prop:=bw l i /\ cM l (((a8 l i).getLast?).getD i)=i
instance (l:List Int) (i:Int):Decidable (f4 l i):=by unfold f4;infer_instance
theorem AG {l:List Int} {i:Int} {m:Nat} {p:Int} {out:List Int} (h:iz l i m p out):cM l ((out.getLast?).getD i)=cZ l i (m+1):=by
 cases m with
 | zero=>
  have:out=[]:=JA h.len;subst this;exact (jd l i).symm
 | succ m=>
  have h1:=h.eq m (by omega);rw [List.getLast?_eq_getElem?,h.len,Nat.add_sub_cancel,h1];rfl
theorem qG {l:List Int} {i:Int} {m:Nat} {p:Int} (h:iz l i m p (a8 l i)) (hs:jm l i p (a8 l i)) (hc:cZ l i (m+1) ≠ i \/ i = -1):∀ j,cZ l i (j+1) = -1 \/ cZ l i (j+1) ∈ a8 l i:=by
 have hst:cZ l i (m+1) = -1 \/ cZ l i (m+1) ∈ a8 l i:=by
  rw [<- h.cur];rcases hs with hs|hs|hs
  .exact .inl hs
  .rw [h.cur] at hs;rcases hc with hc|hc
   .exact absurd hs hc
   .rw [h.cur,hs,hc];exact .inl rfl
  .exact .inr hs
 intro j
 induction j with
 | zero=>
  cases m with
  | zero=>exact hst
  | succ m=>exact .inr (p0 (h.eq 0 (by omega)))
 | succ j ih=>
  rcases ih with ih|ih
  .left;rw [cZ,ih,kZ]
  .obtain ⟨a,ha⟩:=List.mem_iff_getElem?.1 ih;have ham:a<m:=by rw [<- h.len];exact (IV.1 ha).1
   rw [h.eq a ham] at ha
   have e:cZ l i (j+1+1)=cZ l i (a+1+1):=by
    show cM l (cZ l i (j+1))=cM l (cZ l i (a+1));rw [Km ha]
   rw [e];by_cases ham2:a+1<m
   .exact .inr (p0 (h.eq (a+1) ham2))
   .have:a+1=m:=by omega
    rw [this];exact hst
theorem fg {l:List Int} {i:Int} {x:Int} (hx:x ∈ a8 l i):∃ j,1<=j /\ j<=l.length /\ cZ l i j=x:=by
 obtain ⟨m,p,h,_⟩:=gZ l i;obtain ⟨a,ha⟩:=List.mem_iff_getElem?.1 hx;have ham:a<m:=by rw [<- h.len];exact (IV.1 ha).1
 rw [h.eq a ham] at ha;exact ⟨a+1,by omega,by have:=h.room;omega,Km ha⟩
theorem jb (l:List Int) (i x:Int) (hx:0<=x) (hne:i ≠ x):x ∈ a8 l i ↔ ∃ j,1<=j /\ j<=l.length /\ cZ l i j=x:=by
 refine ⟨fg,fun ⟨j,h1,h2,h3⟩=>?_⟩;obtain ⟨m,p,h,hs⟩:=gZ l i;by_cases hc:cZ l i (m+1)=i
 .
  have key:∀ j,cZ l i (j+1) ∈ a8 l i \/ cZ l i (j+1)=i \/ cZ l i (j+1) = -1:=by
   intro j
   induction j with
   | zero=>
    cases m with
    | zero=>exact .inr (.inl hc)
    | succ m=>exact .inl (p0 (h.eq 0 (by omega)))
   | succ j ih=>
    rcases ih with ih|ih|ih
    .obtain ⟨a,ha⟩:=List.mem_iff_getElem?.1 ih;have ham:a<m:=by rw [<- h.len];exact (IV.1 ha).1
     rw [h.eq a ham] at ha
     have e:cZ l i (j+1+1)=cZ l i (a+1+1):=by
      show cM l (cZ l i (j+1))=cM l (cZ l i (a+1));rw [Km ha]
     rw [e];by_cases ham2:a+1<m
     .exact .inl (p0 (h.eq (a+1) ham2))
     .have:a+1=m:=by omega
      rw [this];exact .inr (.inl hc)
    .have e:cZ l i (j+1+1)=cZ l i 1:=by
      show cM l (cZ l i (j+1))=cZ l i 1;rw [ih,jd]
     rw [e]
     cases m with
     | zero=>exact .inr (.inl hc)
     | succ m=>exact .inl (p0 (h.eq 0 (by omega)))
    .right;right;rw [cZ,ih,kZ]
  have:=key (j - 1);rw [show j - 1+1=j from by omega,h3] at this;rcases this with this|this|this
  .exact this
  .exact absurd this.symm hne
  .omega
 .have:=qG h hs (.inl hc) (j - 1);rw [show j - 1+1=j from by omega,h3] at this;rcases this with this|this
  .omega
  .exact this
theorem sk (l:List Int) (i:Int) (hi:bw l i):f4 l i ↔ ∃ j,1<=j /\ j<=l.length /\ cZ l i j=i:=by
 obtain ⟨m,p,h,hs⟩:=gZ l i;unfold f4;rw [AG h];refine ⟨fun hh=>⟨m+1,by omega,?_,hh.2⟩,fun ⟨j,h1,h2,h3⟩=>⟨hi,?_⟩⟩
 .have hnd:(i :: a8 l i).Nodup:=List.nodup_cons.2 ⟨h.not,h.nodup⟩
  have:=lI l.length _ hnd (fun x hx=>by
   rcases JO.1 hx with rfl|hx
   .exact hi
   .exact h.at_ x hx)
  simp [h.len] at this;omega
 .by_cases hc:cZ l i (m+1)=i
  .exact hc
  .have:=qG h hs (.inl hc) (j - 1);rw [show j - 1+1=j from by omega,h3] at this;rcases this with this|this
   .have:=hi.1;omega
   .exact absurd this h.not
def bX (l:List Int):Int:=(((List.range l.length).find? fun (i:Nat)=>decide (f4 l (i:Int))).map fun (i:Nat)=>(i:Int)).getD (-1)
def lh (l:List Int) (i:Int):List Int:=if bw l i then (((List.range l.length).filter fun (k:Nat)=>decide ((k:Int) ≠ i /\ i ∈ a8 l (k:Int))).map fun (k:Nat)=>(k:Int)) else []
def Ct (l:List Int) (a i:Int):Prop:=∃ j,1<=j /\ j<=l.length /\ 0<=a /\ cZ l i j=a
end
section
open Go.ChangeShapes Go.WideShapes Go.ChangeAt Go.RowKit
theorem FW:ownKnob Tryz.prog.godebug=none:=by kernel_rfl
theorem Cz:laidOutB Tryz.prog=true:=by kernel_rfl
theorem CD:Tryz.prog.underlying 4=some .bool:=Tryz.underlying4
theorem jt {H:Type} {enc:TypeId × Value -> H} {P:Program} (hl:laidOutB P=true) {W W':World} (hb:Below W.heap.size W W') (sp:Nat -> Bool) :
  ∀ {ts:List TypeId} {vs:List Value} {ds:List (DataW H)} {ps:List MemPlace},(ts.all fun t=>P.readableRec t && decide (t<P.types.size))=true ->
   DataW.TrodAll enc P W 0 (fun _=>true) true ts vs ds ps -> (∀ x ∈ ps,x.block<W.heap.size) -> (∀ p ∈ ps,sp p.block=true) -> DataW.TrodAll enc P W' 0 sp true ts vs ds ps
 | [],[],[],_,_,h,_,_=>h
 | t :: ts,v :: vs,d :: ds,ps,ht,h,hlt,hs=>by
  obtain ⟨p,q,h1,h2,rfl⟩:=h;simp only [List.all_cons,I2,Je] at ht;refine ⟨p,q,WideElems.Trod_stays hl ht.1.1 ht.1.2 h1 (fun x hx=>hb.same (hlt x (Ja.2 (.inl hx)))) (fun x hx=>hs x (Ja.2 (.inl hx))),?_,rfl⟩;exact jt hl hb sp (by simpa using ht.2) h2 (fun x hx=>hlt x (Ja.2 (.inr hx))) (fun x hx=>hs x (Ja.2 (.inr hx)))
 | [],[],_ :: _,_,_,h,_,_=>h.elim
 | [],_ :: _,_,_,_,h,_,_=>h.elim
 | _ :: _,[],_,_,_,h,_,_=>h.elim
 | _ :: _,_ :: _,[],_,_,h,_,_=>h.elim
theorem yK {H:Type} {enc:TypeId × Value -> H} {f:Func} {s:ChangeSpec} {fid:FuncId} {W:World} {args:Array Value} {ds gs:List (DataW H)} {before:List MemPlace}
  (hts:(f.params.toList.all fun t=>Tryz.prog.readableRec t && decide (t<Tryz.prog.types.size))=true) (hrt:f.resultTypes = #[4]) (hsv:s.vars=[])
  (hW:DataW.Whole enc Tryz.prog f.params.toList s.vars false W args.toList ds gs before)
  (hfn:∀ gs',gs'=[] -> s.fn H (ds ++ gs')={ results:=[.lit (.bool true)],args:=ds })
  (hc:Calls Tryz.prog fid args W fun e W'=>e=.returned (.bool true) /\ Below W.heap.size W W') :
  Calls Tryz.prog fid args W fun e W'=>∃ v,e=.returned v /\ s.post enc Tryz.prog f false true false false W args v W':=by
 refine hc.mono fun e W' ⟨he,hb⟩=>⟨_,he,?_⟩;have hW':=hW;obtain ⟨p,q,hA,hV,rfl,hfz,hnd⟩:=hW;rw [hsv] at hV;obtain ⟨rfl,rfl⟩:=trodVars_none hV;have hlt:∀ x ∈ p,x.block<W.heap.size:=fun x hx=>hW'.lt x (Ja.2 (.inl hx));have e1:=hfn [] rfl;refine ⟨ds,[],p ++ [],[],p,[],hW',?_,?_,?_,hb.frame _,fun h=>by cases h⟩
 .rw [e1,hrt];exact trodAll_mk1 (shut_bool CD true)
 .rw [e1];exact jt Cz hb _ hts hA hlt (fun x hx=>by simpa using hlt x hx)
 .rw [e1,hsv];rfl
end
section
def RI (w:World) (v:Value) (l:List Int):Prop:=(aL (dq .i64)).one w (fun b=>b<w.heap.size) v l
theorem RI.below {w w':World} {v:Value} {l:List Int} (h:RI w v l) (hb:Below w.heap.size w w'):RI w' v l:=fL (lR h hb fun b h=>h) fun b h=>I1 h hb.size
theorem RI.form {w:World} {v:Value} {l:List Int} (h:RI w v l):∃ A c,v=.slice A l.length c /\ l.length<=c:=by
 obtain ⟨A,c,h1,h2,_⟩:=dZ h;exact ⟨A,c,h1,h2⟩
theorem RI.at_ {w:World} {A:Option Addr} {n c:Nat} {l:List Int} (h:RI w (.slice A n c) l) {k:Nat} (hk:k<l.length) :
  ∃ b o,A=some ⟨b,o,none⟩ /\ w.cell? ⟨b,o+k,none⟩=some (.int .i64 (l.getD k 0)) /\ -9223372036854775808<=l.getD k 0 /\ l.getD k 0<=9223372036854775807:=by
 obtain ⟨b,o,rfl,hb,_⟩:=eh h (by omega);have:=DI h hk;rw [List.getD,IU hk];exact ⟨b,o,rfl,this⟩
theorem RI.own {w:World} {base:Nat} {v:Value} {n:Nat} {l:List Int} (h:w.ownsRow base 3 1 v n (l.map (Value.int .i64))) (hx:∀ x ∈ l,-9223372036854775808<=x /\ x<=9223372036854775807):RI w v l:=
 fL (uj (r:=dq .i64) _ h rfl fun a ha=>⟨rfl,pA (hx a ha).1 (hx a ha).2⟩) fun b h=>h.2
theorem CV:(Tryz.prog.info? 3).map (fun i=>(i.zero,i.size,i.bytes))=some (some (.int .i64 0),1,8):=by kernel_rfl
theorem C7 (w:World) (n:Int) (t:TypeId):∀ j u,[Value.int .i64 n][j]? = some u -> (w.alloc (.cells #[.int .i64 n] t)).cell? ((⟨w.heap.size,0,none⟩:Addr).add j)=some u:=ls w [.int .i64 n] t
theorem Dn (n:Int):∀ u ∈ [Value.int .i64 n],u.oneCell'=true:=by intro u hu;simp at hu;subst hu;rfl
theorem wY (l:List Int) (v:Value) (x:Int) (w:World) (hl:l.length<=4294967296) (hv:RI w v l) :
  Calls Tryz.prog 131 #[v,.int .i64 x] w fun e w'=>e=.returned (.int .i64 (((l.findIdx? (· == x)).map fun (n:Nat)=>(n:Int)).getD (-1))) /\ w=w':=by
 obtain ⟨A,c,rfl,hc⟩:=hv.form
 go_enter Tryz.func131,Tryz.ntmps131
 go_wp2_with fail
 go_loop [8] (fun i=>∃ k:Nat,k<=l.length /\ i=.int .i64 (k:Int) /\ ∀ y ∈ l.take k,¬ y=x) (fun i=>l.length - (intOf i).toNat)
 case atStart=>exact ⟨0,IY _,rfl,fun y hy=>by simp at hy⟩
 case round=>
  obtain ⟨k,hk,rfl,hno⟩:=hrel;have Hno:=aO hno;clear hno;by_cases hlt:k<l.length
  .obtain ⟨b,o,rfl,hcell,hb1,hb2⟩:=hv.at_ hlt;have htk:=aO (Jb hlt);have hgk:l.getD k 0=l[k]:=by rw [List.getD,IU hlt];rfl
   rw [hgk] at hcell
   have hfi:(∀ y ∈ l.take k,¬ y=x) -> l[k]=x -> l.findIdx? (· == x)=some k:=by
    intro h1 h2;rw [Kk];refine ⟨hlt,by simpa using h2,fun j hj=>?_⟩;have:=h1 l[j] (List.mem_take_iff_getElem.2 ⟨j,by omega,rfl⟩);simpa using this
   have Hfi:=aO hfi;clear hgk hfi;generalize l[k]=y at *;by_cases hy:y=x
   .have h1:(x == y)=true:=(by simp [hy]);have HE:=aO (Hfi.out Hno.out hy);clear hy
    go_wp2_with fail
    go_ret
    rw [HE.out];exact ⟨rfl,rfl⟩
   .have h1:(x == y)=false:=by simp;exact fun e=>hy e.symm
    go_wp2_with fail
    go_round
    case rel=>
     refine ⟨k+1,by omega,by go_num,fun z hz=>?_⟩;rw [htk.out] at hz;rcases Ja.1 hz with hz|hz
     .exact Hno.out z hz
     .simp at hz;subst hz;exact hy
    case measure=>simp [intOf];omega
  .obtain rfl:k=l.length:=by omega
   go_wp2_with fail
   go_ret
   have:l.findIdx? (· == x)=none:=by
    rw [KA];intro y hy;have:=Hno.out y (by rwa [I9]);simpa using this
   rw [this];exact ⟨rfl,rfl⟩
theorem pX (l:List Int) (v:Value) (x:Int) (w:World) (hl:l.length<=4294967296) (hv:RI w v l) :
  Calls Tryz.prog 107 #[v,.int .i64 x] w fun e w'=>e=.returned (.bool (decide (x ∈ l))) /\ w=w':=by
 have hcase:(∃ n:Nat,l.findIdx? (· == x)=some n /\ x ∈ l) \/ (l.findIdx? (· == x)=none /\ x ∉ l):=by
  cases h:l.findIdx? (· == x) with
  | none=>
   right;rw [KA] at h;exact ⟨rfl,fun hx=>by have:=h x hx;simp at this⟩
  | some n=>
   left;rw [Kk] at h;obtain ⟨h1,h2,_⟩:=h;simp at h2;exact ⟨n,rfl,by rw [<- h2];exact IZ _⟩
 have hix:=wY l v x w hl hv;rcases hcase with ⟨n,h1,h2⟩|⟨h1,h2⟩
 .rw [h1] at hix;have Hix:=aO hix;clear hix h1
  go_enter Tryz.func107,Tryz.ntmps107
  go_wp2_with (go_at_call 131;refine Hix.out.mono ?_;rintro e w' ⟨rfl,rfl⟩;simp only [JV,Ju])
  go_ret
  exact ⟨by simp [h2],rfl⟩
 .rw [h1] at hix;have Hix:=aO hix;clear hix h1
  go_enter Tryz.func107,Tryz.ntmps107
  go_wp2_with (go_at_call 131;refine Hix.out.mono ?_;rintro e w' ⟨rfl,rfl⟩;simp only [Option.map_none,Option.getD_none])
  go_ret
  exact ⟨by simp [h2],rfl⟩
def ET (l:List Int) (i:Int) (w:World) (e:Ending) (w':World):Prop:=(cM l i = -1 /\ e=.returned (.tuple #[.int .i64 0,.bool false]) \/ bw l (cM l i) /\ e=.returned (.tuple #[.int .i64 (cM l i),.bool true])) /\ w=w'
theorem vq (l:List Int) (v:Value) (i:Int) (w:World) (hl:l.length<=4294967296) (hv:RI w v l) :
  Calls Tryz.prog 82 #[v,.int .i64 i] w (ET l i w):=by
 obtain ⟨A,c,rfl,hc⟩:=hv.form;by_cases h1:bw l i
 .obtain ⟨h1a,h1b⟩:=h1;obtain ⟨k,rfl⟩:=Kq h1a;have hk:k<l.length:=by omega
  obtain ⟨b,o,rfl,hcell,hb1,hb2⟩:=hv.at_ hk;have hp:cM l (k:Int)=jJ l (l.getD k 0):=by unfold cM;rw [I8 ⟨h1a,h1b⟩];simp
  have hn:=cR l (l.getD k 0);rw [<- hp] at hn;have Hn:=aO hn;clear hn hp;generalize l.getD k 0=y at *;by_cases h2:0<=y
  .by_cases h3:y<(l.length:Int)
   .have e:cM l k=y:=by
     rcases Hn.out with ⟨_,e⟩|⟨h,_⟩
     .exact e
     .exact absurd ⟨h2,h3⟩ h
    have E:=aO e;clear e
    go_enter Tryz.func82,Tryz.ntmps82
    go_wp2_with fail
    go_ret2
    refine ⟨.inr ⟨?_,?_⟩,rfl⟩
    .rw [E.out];exact ⟨h2,h3⟩
    .rw [E.out];rfl
   .have e:cM l k = -1:=by
     rcases Hn.out with ⟨h,_⟩|⟨_,e⟩
     .exact absurd h.2 h3
     .exact e
    have E:=aO e;clear e
    go_enter Tryz.func82,Tryz.ntmps82
    go_wp2_with fail
    go_ret2
    exact ⟨.inl ⟨E.out,rfl⟩,rfl⟩
  .have e:cM l k = -1:=by
    rcases Hn.out with ⟨h,_⟩|⟨_,e⟩
    .exact absurd h.1 h2
    .exact e
   have E:=aO e;clear e
   go_enter Tryz.func82,Tryz.ntmps82
   go_wp2_with fail
   go_ret2
   exact ⟨.inl ⟨E.out,rfl⟩,rfl⟩
 .have e:cM l i = -1:=by unfold cM;rw [I4 h1]
  have E:=aO e;clear e;by_cases h2:0<=i
  .have h3:(l.length:Int)<=i:=by
    unfold bw at h1;omega
   go_enter Tryz.func82,Tryz.ntmps82
   go_wp2_with fail
   go_ret2
   exact ⟨.inl ⟨E.out,rfl⟩,rfl⟩
  .go_enter Tryz.func82,Tryz.ntmps82
   go_wp2_with fail
   go_ret2
   exact ⟨.inl ⟨E.out,rfl⟩,rfl⟩
def si (L:List Int) (w:World) (e:Ending) (w':World):Prop:=∃ v,e=.returned v /\ w'.ownsRow w.heap.size 3 1 v L.length (L.map (Value.int .i64)) /\ Below w.heap.size w w'
theorem Ee (l:List Int) (v:Value) (i:Int) (w:World) (hl:l.length<=4294967296) (hv:RI w v l) (h:cM l i = -1) :
  Calls Tryz.prog 82 #[v,.int .i64 i] w fun e w'=>e=.returned (.tuple #[.int .i64 0,.bool false]) /\ w=w':=
 (vq l v i w hl hv).mono fun e w' ⟨hh,hw⟩=>by
  rcases hh with ⟨_,he⟩|⟨hat,_⟩
  .exact ⟨he,hw⟩
  .rw [h] at hat;exact absurd hat.1 (by omega)
theorem tR (l:List Int) (v:Value) (i y:Int) (w:World) (hl:l.length<=4294967296) (hv:RI w v l) (h:cM l i=y) (hy:bw l y) :
  Calls Tryz.prog 82 #[v,.int .i64 i] w fun e w'=>e=.returned (.tuple #[.int .i64 y,.bool true]) /\ w=w':=
 (vq l v i w hl hv).mono fun e w' ⟨hh,hw⟩=>by
  rcases hh with ⟨hp,_⟩|⟨hat,he⟩
  .rw [h] at hp;exact absurd hy.1 (by omega)
  .rw [h] at he;exact ⟨he,hw⟩
def HG:Value -> Nat | .slice _ n _=>n | _=>0
theorem ou {P:Program} {a:Act} {w:World} {Q:Exit -> Act -> World -> Prop} {c X:Code} (l:Nat) (J:Act -> World -> Prop) (μ:Act -> World -> Nat) (hf:findLabel c l=some (Code.skip.seq X))
  (pass:∀ a w,J a w -> X.wp P (Exit.jump l (fun a' w'=>J a' w' /\ μ a' w' < μ a w) Q) a w)
  (first:(∀ a w,J a w -> X.wp P (Exit.jump l J Q) a w) -> c.wp P (Exit.jump l J Q) a w):(Code.scope c).wp P Q a w:=by
 refine wp_scope_jumps l J μ hf (first fun a w h=>wp_mono (pass a w h) ?_) (fun a w h=>?_)
 .intro e a' w' hq
  cases e with
  | goto l'=>exact ⟨hq.1,hq.2.1⟩
  | normal=>exact hq
  | exit id=>exact hq
  | ret=>exact hq
  | panic ch=>exact hq
  | outgrown=>exact hq
 .exact wp_seq (wp_skip (pass a w h))
theorem pH (l:List Int) (v:Value) (i:Int) (w:World) (hl:l.length<=1073741824) (hv:RI w v l) :
  Calls Tryz.prog 81 #[v,.int .i64 i] w (si (a8 l i) w):=by
 obtain ⟨i0,hi0,hz0,hz1,hz2⟩:=info_parts CV;have hl:l.length<=4294967296:=by omega
 obtain ⟨A,c,rfl,hc⟩:=hv.form
 go_enter Tryz.func81,Tryz.ntmps81
 go_wp2_with fail
 refine ou 0 (fun a' w'=>∃ (m:Nat) (q:Int) (out:List Int) (v':Value) (u7 u8 u9 u10 u11 u12 u13 u14 u15 u16 u17 u18 u19 u20 u21 u22 u23 u24 u25 u26 u27 u28 u29 u30 u31 u32 u33:Value),
   a'={ tmps:=#[.slice A l.length c,.int .i64 i,undef,undef,.slice none 0 0,v',.int .i64 q,u7,u8,u9,u10,u11,u12,u13,u14,u15,u16,u17,u18,u19,u20,u21,u22,u23,u24,u25,u26,u27,u28,u29,u30,u31,u32,u33],defers:=[] } /\
   iz l i m q out /\ w'.ownsRow w.heap.size 3 1 v' out.length (out.map (Value.int .i64)) /\ Below w.heap.size w w') (fun a' w'=>l.length+1 - HG (a'.tmps.getD 5 undef)) (by rfl) ?_ ?_
 .rintro a' w1 ⟨m,q,out,v',u7,u8,u9,u10,u11,u12,u13,u14,u15,u16,u17,u18,u19,u20,u21,u22,u23,u24,u25,u26,u27,u28,u29,u30,u31,u32,u33,rfl,hup,hown,hb⟩;have hat:=hup.at_;have hroom:=hup.room;have hlen:=hup.len;have hri:RI w1 v' out:=RI.own hown (fun x hx=>by have:=hat x hx;unfold bw at this;omega);have hl1:out.length<=4294967296:=by omega
  have hv1:=hv.below hb;obtain ⟨A',c',rfl,hc'⟩:=hri.form;have Hstop:=aO (hup.stop);have Hnext:=aO (hup.next);have Hlen:=aO hlen;have Hat:=aO hat
  clear hat hlen;rcases m5 l q with hp|hp
  .have hin:=Ee l _ q w1 hl hv1 hp;have Hin:=aO hin;have E:=aO (Hstop.out (.inl hp));clear hin hp
   go_wp2_with (go_at_call 82;refine Hin.out.mono ?_;rintro e w2 ⟨rfl,rfl⟩)
   simp only [Exit.jump];go_ret
   rw [<- E.out];exact ⟨_,rfl,hown,hb⟩
  .have hin:=tR l _ q (cM l q) w1 hl hv1 rfl hp;have hpr:0<=cM l q /\ cM l q<(l.length:Int):=hp;have Hin:=aO hin;have hs1:cM l q=i -> out=a8 l i:=fun h=>Hstop.out (.inr (.inl h));have hs2:cM l q ∈ out -> out=a8 l i:=fun h=>Hstop.out (.inr (.inr h))
   have hs3:cM l q ≠ i -> cM l q ∉ out -> iz l i (m+1) (cM l q) (out ++ [cM l q]) /\ m+1<=l.length:=fun h1 h2=>Hnext.out (fun hh=>by
    rcases hh with hh|hh|hh
    .have:=hp.1;omega
    .exact h1 hh
    .exact h2 hh)
   have Hs1:=aO hs1;have Hs2:=aO hs2;have Hs3:=aO hs3;clear hin hp hs1 hs2 hs3 Hstop Hnext;generalize cM l q=y at *
   cases h1:(y == i) with
   | true=>
    have E:=aO (Hs1.out (by simpa using h1))
    go_wp2_with (go_at_call 82;refine Hin.out.mono ?_;rintro e w2 ⟨rfl,rfl⟩)
    simp only [Exit.jump];go_ret
    rw [<- E.out];exact ⟨_,rfl,hown,hb⟩
   | false=>
    have hne:y ≠ i:=(by simpa using h1);have hcn:=pX out _ y w1 hl1 hri;by_cases h2:y ∈ out
    .rw [show decide (y ∈ out)=true from Jc h2] at hcn;have Hcn:=aO hcn;have E:=aO (Hs2.out h2);clear hcn h2 hne
     go_wp2_with (first
      | (go_at_call 82;refine Hin.out.mono ?_;rintro e w2 ⟨rfl,rfl⟩)
      | (go_at_call 107;refine Hcn.out.mono ?_;rintro e w2 ⟨rfl,rfl⟩))
     simp only [Exit.jump];go_ret
     rw [<- E.out];exact ⟨_,rfl,hown,hb⟩
    .rw [show decide (y ∈ out)=false from I3 h2] at hcn;have Hcn:=aO hcn;have E:=aO (Hs3.out hne h2);clear hcn h2 hne;have hB:=hb.size
     go_wp2_with (first
      | (go_at_call 82;refine Hin.out.mono ?_;rintro e w2 ⟨rfl,rfl⟩)
      | (go_at_call 107;refine Hcn.out.mono ?_;rintro e w2 ⟨rfl,rfl⟩)
      | (at_builtin;refine wpList_append_own _ rfl (.tmp 29) (.tmp 31) 45 rfl w.heap.size 3 i0 _ 1 8 Tryz.underlying45 hi0 hz0 hz1 hz2 rfl (by omega) _ out.length _ rfl (hown.alloc _) ⟨w1.heap.size,0,none⟩ 1 1 [.int .i64 y] rfl rfl (C7 _ _ _) (Dn _) (by unfold maxLen;omega) (by omega) (by simp;omega) ?_;intro v2 w2 hown2 hg2 _))
     go_step3
     obtain ⟨e1,e2⟩:=E.out;have hb2:=(hb.alloc hb.size (.cells #[.int .i64 y] 3)).grown hg2 (by simp;omega) (fun g hg=>(hown.lt g hg).1);refine ⟨rfl,⟨m+1,y,out ++ [y],v2,_,_,_,_,_,_,_,_,_,_,_,_,_,_,_,_,_,_,_,_,_,_,_,_,_,_,_,rfl,e1,?_,hb2⟩,?_⟩
     .have:=hown2;rw [I0,Jl];exact this
     .obtain ⟨A2,c2,rfl,_⟩:=ir hown2;show l.length+1 - (out.length+1)<l.length+1 - out.length;have:=Hlen.out;omega
 .intro hpass
  go_wp2
  go_step3
  rename_i hK;exact hK _ _ (hpass _ _ ⟨0,i,[],_,_,_,_,_,_,_,_,_,_,_,_,_,_,_,_,_,_,_,_,_,_,_,_,_,_,_,_,rfl,iz.start l i,World.ownsRow_nil _ _ _ _,Below.refl _ _⟩)
end
section
theorem mF {w:World} {S:Nat -> Prop} {v:Value} {l:List Int} (h:RT w S v (sI l)) (hS:yQ w S) (hl:∀ x ∈ l,aA x):RI w v l:=by
 obtain ⟨A,cap,rfl,hc,hm,_,hA⟩:=h.sl_inv;refine ⟨A,cap,by simp,by simpa using hc,hm,fun h0=>?_⟩;obtain ⟨b,o,rfl,hb,U,hcell,hr,_⟩:=hA (by simpa using h0);refine ⟨b,o,rfl,hS b hb,fun i hi=>⟨[.int .i64 l[i]],fun j u hu=>?_,rfl,?_⟩⟩
 .have h1:(l.map fun n=>[eI n])[i]? = some [eI l[i]]:=by simp [hi]
  have h2:=hcell i 0 _ _ h1 rfl;have h3:=xz (hr i 0 _ _ h1 rfl)
  cases j with
  | zero=>
   simp at hu;subst hu;rw [h3] at h2;simpa [dq] using h2
  | succ j=>simp at hu
 .have:=hl _ (IZ hi);exact pA this.1 this.2
theorem re {f:FuncId} {args:List AV} {l:List Int} (he:dR Tryz.prog f)
  (h:∀ (S:Nat -> Prop) (w:World) (vs:Array Value),yQ w S -> vs.size=args.length -> (∀ (j:Nat) (v:Value) (av:AV),vs[j]? = some v -> args[j]? = some av -> RT w S v av) -> Calls Tryz.prog f vs w (si l w)):ap Tryz.prog f args (cu 3 1 (l.map fun n=>[eI n])):=
 ⟨he,fun S w vs h1 h2 h3=>(h S w vs h1 h2 h3).mono fun e w' ⟨v,h4,h5,h6⟩=>by
  have hget:∀ id o,(cu 3 1 (l.map fun n=>[eI n])).tab.get id=some o -> id=0 /\ o=.row 3 1 (l.map fun n=>[eI n]):=fun id o ho=>by
   simp only [cu,ag.gc] at ho;split at ho
   .cases ho;exact ⟨by assumption,rfl⟩
   .cases ho
  refine ⟨v,fun _=>v,_,rfl,cK ..,h4,⟨jR h6,fun id o ho=>?_,fun id id' o o' g h7 h8 _ _=>?_,fun b hb=>hb.elim⟩,.osl _ _ fun sz u hk=>?_⟩
  .obtain ⟨_,rfl⟩:=hget id o ho;refine ⟨fun row hr=>?_,_,by rw [Jd];exact om h5,fun x hx=>?_,fun i j row av ha hb=>?_⟩
   .obtain ⟨n,_,rfl⟩:=I7.1 hr;rfl
   .obtain ⟨n,_,rfl⟩:=I7.1 hx;rfl
   .rw [IW] at ha
    cases hi:l[i]? with
    | none=>simp [hi] at ha
    | some n=>
     simp [hi] at ha;subst ha
     cases j with
     | zero=>
      simp at hb;subst hb;exact ⟨.int .i64 n,by simp [hi],.c _⟩
     | succ j=>simp at hb
  .rw [(hget id o h7).1,(hget id' o' h8).1]
  .unfold Kx at hk
   cases ho:(cu 3 1 (l.map fun n=>[eI n])).tab.get 0 with
   | none=>simp [ho] at hk
   | some o=>simp [ho] at hk;exact hk.2⟩
theorem nZ {vs:Array Value} (h:vs.size=2):∃ a b,vs = #[a,b]:=⟨vs[0],vs[1],by apply KS (by simpa using h);intro i h1 h2;simp at h2;match i with | 0=>rfl | 1=>rfl⟩
theorem aB {r av:AV} {st:ai} (h:r.ren []=av):cI ⟨r,[],0⟩ st av:=⟨[],List.nodup_nil,h,trivial⟩
theorem fS {l:List (Bool × Int)}:∀ row ∈ l.map dS,∀ av ∈ row,av.plain:=fun row hr av ha=>by
 obtain ⟨n,_,rfl⟩:=I7.1 hr;simp at ha;rcases ha with rfl|rfl<;>trivial
theorem BR : (Tryz.prog.fieldsOf 97).toList.map (fun f => (f.name, f.type, f.offset)) = [("Mile", 4, 0), ("N", 3, 1)] := by kernel_rfl
theorem pw (op:BinOp) (hop:op=.eql \/ op=.neq) (a b:Bool × Int):p4 Tryz.prog op 97 (.agg #[.bool a.1,.int .i64 a.2]) (.agg #[.bool b.1,.int .i64 b.2]) (.bool (if op matches .eql then (a.1 == b.1 && a.2 == b.2) else !(a.1 == b.1 && a.2 == b.2))):=by
 have ht:=BR
 obtain ⟨f,g,hfs⟩:∃ f g,(Tryz.prog.fieldsOf 97).toList=[f,g]:=by
  generalize (Tryz.prog.fieldsOf 97).toList=l at ht ⊢
  cases l with
  | nil=>simp at ht
  | cons f l=>cases l with
   | nil=>simp at ht
   | cons g l=>cases l with
    | nil=>exact ⟨f,g,rfl⟩
    | cons h l=>simp at ht
 rw [hfs] at ht;simp only [JN,Jo,List.cons.injEq,Prod.mk.injEq,and_true] at ht;obtain ⟨⟨h1,h2,h3⟩,h4,h5,h6⟩:=ht;refine o6 [(.bool a.1,.bool b.1),(.int .i64 a.2,.int .i64 b.2)] (by kernel_rfl) (by kernel_rfl) (by kernel_rfl) (by rw [hfs];rfl) (fun k f' p hk hp=>?_) (by simp [iX,ne]) hop;rw [hfs] at hk
 match k,hk,hp with
 | 0,hk,hp=>
  cases hk;cases hp;refine ⟨by rw [h1];decide,?_,by rw [h3];rfl,by rw [h3];rfl⟩;rw [h2]
  kernel_rfl
 | 1,hk,hp=>
  cases hk;cases hp;refine ⟨by rw [h4];decide,?_,by rw [h6];rfl,by rw [h6];rfl⟩;rw [h5]
  kernel_rfl
 | k+2,hk,hp=>simp at hk
end
section
theorem Cu (l:List Int) (i:Int) (k d:Nat) (x:Int) (h:cZ l i k=jJ l x) (hx:¬ bw l x):cZ l i (k+d) = -1:=
 tl l i k (by rw [h];exact ((cR l x).resolve_left fun hh=>hx hh.1).2) d
theorem FE (l:List Int) (v:Value) (i n:Int) (w:World) (hl:l.length<=1073741824) (hn0:0<=n) (hn:n<=4294967296) (hv:RI w v l) :
  Calls Tryz.prog 74 #[v,.int .i64 i,.int .i64 n] w fun e w'=>e=.returned (.int .i64 (cZ l i n.toNat)) /\ w=w':=by
 obtain ⟨A,c,rfl,hc⟩:=hv.form;obtain ⟨N,rfl⟩:=Kq hn0;rw [J4]
 go_enter Tryz.func74,Tryz.ntmps74
 go_wp2_with fail
 go_loop [1,7] (fun x j=>∃ (k:Nat) (y:Int),k<=N /\ j=.int .i64 (k:Int) /\ x=.int .i64 y /\ cZ l i k=jJ l y) (fun x j=>N - (intOf j).toNat)
 case atStart=>exact ⟨0,i,IY _,rfl,rfl,rfl⟩
 case round=>
  obtain ⟨k,y,hk,rfl,rfl,hup⟩:=hrel;by_cases hlt:k<N
  .by_cases hy:bw l y
   .obtain ⟨hy1,hy2⟩:=hy;obtain ⟨z,rfl⟩:=Kq hy1;obtain ⟨b,o,rfl,hcell,hb1,hb2⟩:=hv.at_ (show z<l.length by omega)
    have e:cZ l i (k+1)=jJ l (l.getD z 0):=by
     show cM l (cZ l i k)=_;rw [hup,rE];unfold cM;rw [I8 ⟨hy1,hy2⟩];simp
    have E:=aO e;clear hup e;generalize l.getD z 0=y' at *
    go_wp2_with fail
    go_round
    case rel=>exact ⟨k+1,y',by omega,by go_num,rfl,E.out⟩
    case measure=>simp [intOf];omega
   .have e:=Cu l i k (N - k) y hup hy;rw [show k+(N - k)=N from by omega] at e;have E:=aO e;clear e hup;by_cases h0:0<=y
    .have h1:(l.length:Int)<=y:=by unfold bw at hy;omega
     clear hy
     go_wp2_with fail
     go_ret
     rw [E.out];exact ⟨rfl,rfl⟩
    .clear hy
     go_wp2_with fail
     go_ret
     rw [E.out];exact ⟨rfl,rfl⟩
  .obtain rfl:k=N:=by omega
   by_cases hy:bw l y
   .have e:cZ l i k=y:=by rw [hup];exact ((cR l y).resolve_right fun hh=>hh.1 hy).2
    have E:=aO e;clear e hup;obtain ⟨hy1,hy2⟩:=hy
    go_wp2_with fail
    go_ret
    rw [E.out];exact ⟨rfl,rfl⟩
   .have e:cZ l i k = -1:=by rw [hup];exact ((cR l y).resolve_left fun hh=>hy hh.1).2
    have E:=aO e;clear e hup;by_cases h0:0<=y
    .have h1:(l.length:Int)<=y:=by unfold bw at hy;omega
     clear hy
     go_wp2_with fail
     go_ret
     rw [E.out];exact ⟨rfl,rfl⟩
    .clear hy
     go_wp2_with fail
     go_ret
     rw [E.out];exact ⟨rfl,rfl⟩
noncomputable instance (l:List Int) (a i:Int):Decidable (Ct l a i):=Classical.propDecidable _
theorem BO (l:List Int) (v:Value) (a i:Int) (w:World) (hl:l.length<=1073741824) (hv:RI w v l) :
  Calls Tryz.prog 30 #[v,.int .i64 a,.int .i64 i] w fun e w'=>e=.returned (.bool (decide (Ct l a i))) /\ w=w':=by
 obtain ⟨A,c,rfl,hc⟩:=hv.form
 go_enter Tryz.func30,Tryz.ntmps30
 go_wp2_with fail
 go_loop [7] (fun j=>∃ k:Nat,1<=k /\ k<=l.length+1 /\ j=.int .i64 (k:Int) /\ ∀ m,1<=m -> m<k -> ¬ (0<=a /\ cZ l i m=a)) (fun j=>l.length+1 - (intOf j).toNat)
 case atStart=>exact ⟨1,I6 _,by omega,rfl,fun m h1 h2=>by omega⟩
 case round=>
  obtain ⟨k,hk1,hk,rfl,hno⟩:=hrel;have Hno:=aO hno;clear hno;by_cases hlt:k<=l.length
  .have hup:=FE l _ i (k:Int) w hl (by omega) (by omega) hv;rw [J4] at hup;have hyes:0<=a -> cZ l i k=a -> decide (Ct l a i)=true:=fun h1 h2=>Jc ⟨k,hk1,hlt,h1,h2⟩
   have hnext:¬ (0<=a /\ cZ l i k=a) -> ∀ m,1<=m -> m<k+1 -> ¬ (0<=a /\ cZ l i m=a):=fun h m h1 h2=>by
    by_cases e:m=k
    .subst e;exact h
    .exact Hno.out m h1 (by omega)
   have Hup:=aO hup;have Hyes:=aO hyes;have Hnext:=aO hnext;clear hup hyes hnext Hno;generalize cZ l i k=y at *;by_cases h0:0<=a
   .by_cases h1:y=a
    .have h2:(y == a)=true:=(by simpa using h1);have E:=aO (Hyes.out h0 h1);clear h1
     go_wp2_with (go_at_call 74;refine Hup.out.mono ?_;rintro e w' ⟨rfl,rfl⟩)
     go_ret
     rw [E.out];exact ⟨rfl,rfl⟩
    .have h2:(y == a)=false:=(by simpa using h1);have E:=aO (Hnext.out (fun hh=>h1 hh.2));clear h1
     go_wp2_with (go_at_call 74;refine Hup.out.mono ?_;rintro e w' ⟨rfl,rfl⟩)
     go_round
     case rel=>exact ⟨k+1,by omega,by omega,by go_num,E.out⟩
     case measure=>simp [intOf];omega
   .have E:=aO (Hnext.out (fun hh=>h0 hh.1))
    go_wp2_with fail
    go_round
    case rel=>exact ⟨k+1,by omega,by omega,by go_num,E.out⟩
    case measure=>simp [intOf];omega
  .have e:decide (Ct l a i)=false:=by
    refine I3 fun ⟨m,h1,h2,h3,h4⟩=>Hno.out m h1 (by omega) ⟨h3,h4⟩
   have E:=aO e;clear e
   go_wp2_with fail
   go_ret
   rw [E.out];exact ⟨rfl,rfl⟩
end
section
theorem sA (l:List Int) (i:Int):∀ x ∈ a8 l i,bw l x:=by
 obtain ⟨m,p,h,_⟩:=gZ l i;exact h.at_
theorem yw (l:List Int) (i:Int):(a8 l i).length<=l.length:=by
 obtain ⟨m,p,h,_⟩:=gZ l i;rw [h.len];exact h.room
theorem RI.list {w:World} {base:Nat} {v:Value} {n:Nat} {l L:List Int} (h:w.ownsRow base 3 1 v n (L.map (Value.int .i64))) (hx:∀ x ∈ L,bw l x) (hl:l.length<=1073741824):RI w v L:=
 RI.own h fun x hh=>by have:=hx x hh;unfold bw at this;omega
end
section
theorem nN (l:List Int) (k:Nat) (hk:k<l.length) (hno:∀ j,j<k -> ¬ f4 l (j:Int)) (hy:f4 l (k:Int)):bX l=(k:Int):=by
 unfold bX
 have:(List.range l.length).find? (fun (i:Nat)=>decide (f4 l (i:Int)))=some k:=by
  rw [List.find?_range_eq_some];exact ⟨by simpa using hy,by simpa using hk,fun j hj=>by simpa using hno j hj⟩
 rw [this];rfl
theorem pt (l:List Int) (hno:∀ j,j<l.length -> ¬ f4 l (j:Int)):bX l = -1:=by
 unfold bX
 have:(List.range l.length).find? (fun (i:Nat)=>decide (f4 l (i:Int)))=none:=by
  rw [List.find?_eq_none];intro j hj;simpa using hno j (by simpa using hj)
 rw [this];rfl
theorem oE (l:List Int) (v:Value) (w:World) (hl:l.length<=1073741824) (hv:RI w v l) :
  Calls Tryz.prog 13 #[v] w fun e w'=>e=.returned (.int .i64 (bX l)) /\ Below w.heap.size w w':=by
 obtain ⟨A,c,rfl,hc⟩:=hv.form
 go_enter Tryz.func13,Tryz.ntmps13
 go_wp2_with fail
 go_loop [3] (fun j=>∃ k:Nat,k<=l.length /\ j=.int .i64 (k:Int) /\ ∀ m,m<k -> ¬ f4 l (m:Int)) (fun j=>l.length - (intOf j).toNat)
 case atStart=>exact ⟨0,IY _,rfl,fun m hm=>by omega⟩
 case round=>
  obtain ⟨k,hk,rfl,hno⟩:=hrel;have Hno:=aO hno;clear hno;by_cases hlt:k<l.length
  .have ha:=BO l _ (k:Int) (k:Int) w hl hv;have hci:=sk l (k:Int) ⟨by omega,by omega⟩
   have e:decide (Ct l (k:Int) (k:Int))=decide (f4 l (k:Int)):=by
    refine decide_eq_decide.2 ⟨fun ⟨j,h1,h2,_,h3⟩=>hci.2 ⟨j,h1,h2,h3⟩,fun h=>?_⟩;obtain ⟨j,h1,h2,h3⟩:=hci.1 h;exact ⟨j,h1,h2,by omega,h3⟩
   rw [e] at ha;by_cases hy:f4 l (k:Int)
   .rw [Jc hy] at ha;have Ha:=aO ha;have E:=aO (nN l k hlt Hno.out hy);clear ha e hci hy
    go_wp2_with (go_at_call 30;refine Ha.out.mono ?_;rintro e w2 ⟨rfl,rfl⟩)
    go_ret
    rw [E.out];exact ⟨rfl,Below.refl _ _⟩
   .rw [I3 hy] at ha;have Ha:=aO ha;have Hy:=aO hy;clear ha e hci hy
    go_wp2_with (go_at_call 30;refine Ha.out.mono ?_;rintro e w2 ⟨rfl,rfl⟩)
    go_round
    case rel=>
     refine ⟨k+1,by omega,by go_num,fun m hm=>?_⟩;by_cases e:m=k
     .subst e;exact Hy.out
     .exact Hno.out m (by omega)
    case measure=>simp [intOf];omega
  .obtain rfl:k=l.length:=by omega
   have E:=aO (pt l Hno.out)
   go_wp2_with fail
   go_ret
   rw [E.out];exact ⟨rfl,Below.refl _ _⟩
theorem t9 (l:List Int) (v:Value) (w:World) (hl:l.length<=1073741824) (hv:RI w v l) :
  Calls Tryz.prog 37 #[v] w fun e w'=>e=.returned (.int .i64 (bX l)) /\ Below w.heap.size w w':=by
 obtain ⟨A,c,rfl,hc⟩:=hv.form
 go_enter Tryz.func37,Tryz.ntmps37
 go_wp2_with fail
 go_loopw [10] (fun j wr=>∃ k:Nat,k<=l.length /\ j=.int .i64 (k:Int) /\ (∀ m,m<k -> ¬ f4 l (m:Int)) /\ Below w.heap.size w wr) (fun j wr=>l.length - (intOf j).toNat)
 case atStart=>exact ⟨0,IY _,rfl,fun m hm=>by omega,Below.refl _ _⟩
 case round=>
  obtain ⟨k,hk,rfl,hno,hb⟩:=hrel;have Hno:=aO hno;clear hno;by_cases hlt:k<l.length
  .have ha:=pH l _ (k:Int) wr hl (hv.below hb);have hab:=sA l (k:Int);have hal:=yw l (k:Int);have hcd:f4 l (k:Int) ↔ cM l (((a8 l (k:Int)).getLast?).getD (k:Int))=(k:Int):=⟨fun h=>h.2,fun h=>⟨⟨by omega,by omega⟩,h⟩⟩;generalize a8 l (k:Int)=L at *;have Ha:=aO ha;have Hab:=aO hab;have Hcd:=aO hcd;clear ha hab hcd;have hin:=fun (q:Int) (w1:World) (h:RI w1 (.slice A l.length c) l)=>vq l _ q w1 (by omega) h;have Hin:=aO hin;clear hin
   go_upto_if 19 with (go_at_call 81;refine Ha.out.mono ?_;rintro e w1 ⟨v1,rfl,hown1,hb1⟩;obtain ⟨A',c',rfl,hc'⟩:=ir hown1)
   have hri:=RI.list hown1 Hab.out hl;have hb0:=hb.trans (hb1.mono hb.size);clear hown1
   go_cut [4] (fun u wx=>u=.int .i64 ((L.getLast?).getD (k:Int)) /\ w1=wx)
   case first=>
    by_cases hL:0<L.length
    .obtain ⟨b,o,rfl,hcell,_,_⟩:=hri.at_ (show L.length - 1<L.length by omega)
     have e:L.getD (L.length - 1) 0=(L.getLast?).getD (k:Int):=by
      rw [List.getLast?_eq_getElem?,List.getD,IU (show L.length - 1<L.length by omega)];rfl
     have E:=aO e;generalize (L.getLast?).getD (k:Int)=z at *;rw [e] at hcell;clear e
     go_wp2_with fail
     go_meet
     case rel=>exact ⟨rfl,rfl⟩
    .have e:(L.getLast?).getD (k:Int)=(k:Int):=by
      obtain rfl:L=[]:=JA (by omega);rfl
     have E:=aO e;clear e;generalize (L.getLast?).getD (k:Int)=z at *
     go_wp2_with fail
     go_meet
     case rel=>exact ⟨by rw [E.out],rfl⟩
   case rest=>
    obtain ⟨rfl,rfl⟩:=hcut;have hq:=Hin.out ((L.getLast?).getD (k:Int)) w1 (hv.below hb0);generalize (L.getLast?).getD (k:Int)=z at *;have Hq:=aO hq;clear hq Hin;have hpz:cM l z = -1 \/ bw l (cM l z):=m5 l z;by_cases hy:f4 l (k:Int)
    .have e:=Hcd.out.1 hy;have h1:(cM l z == (k:Int))=true:=(by simpa using e)
     have hq2:Calls Tryz.prog 82 #[.slice A l.length c,.int .i64 z] w1 fun e w'=>e=.returned (.tuple #[.int .i64 (k:Int),.bool true]) /\ w1=w':=by
      have:=tR l _ z (k:Int) w1 (by omega) (hv.below hb0) e ⟨by omega,by omega⟩;exact this
     have Hq2:=aO hq2;have E:=aO (nN l k hlt Hno.out hy);clear hy e h1 hq2 hpz Hq
     go_wp2_with (go_at_call 82;refine Hq2.out.mono ?_;rintro e w2 ⟨rfl,rfl⟩)
     go_ret
     rw [E.out];exact ⟨rfl,hb0⟩
    .have hne:cM l z ≠ (k:Int):=fun e=>hy (Hcd.out.2 e);have Hy:=aO hy;rcases hpz with hpz|hpz
     .have Hq2:=aO (Ee l _ z w1 (by omega) (hv.below hb0) hpz);clear hy hne hpz Hq
      go_wp2_with (go_at_call 82;refine Hq2.out.mono ?_;rintro e w2 ⟨rfl,rfl⟩)
      go_roundw
      case rel=>
       refine ⟨k+1,by omega,by go_num,fun m hm=>?_,hb0⟩;by_cases e:m=k
       .subst e;exact Hy.out
       .exact Hno.out m (by omega)
      case measure=>simp [intOf];omega
     .have Hq2:=aO (tR l _ z _ w1 (by omega) (hv.below hb0) rfl hpz);have h1:(cM l z == (k:Int))=false:=(by simpa using hne);generalize cM l z=y at *;clear hy hne hpz Hq
      go_wp2_with (go_at_call 82;refine Hq2.out.mono ?_;rintro e w2 ⟨rfl,rfl⟩)
      go_roundw
      case rel=>
       refine ⟨k+1,by omega,by go_num,fun m hm=>?_,hb0⟩;by_cases e:m=k
       .subst e;exact Hy.out
       .exact Hno.out m (by omega)
      case measure=>simp [intOf];omega
  .obtain rfl:k=l.length:=by omega
   have E:=aO (pt l Hno.out)
   go_wp2_with fail
   go_ret
   rw [E.out];exact ⟨rfl,hb⟩
end
section
theorem ip {l:List Int} (hn:∀ k:Nat,k<l.length -> ¬ f4 l (k:Int)) {i:Int} (hi:bw l i) {m:Nat} {p:Int} (h:iz l i m p (a8 l i)) (hs:jm l i p (a8 l i)):cZ l i (m+1) = -1:=by
 have hnc:∀ x,bw l x -> ∀ j,1<=j -> j<=l.length -> cZ l x j ≠ x:=by
  intro x hx j h1 h2 h3;obtain ⟨n,rfl⟩:=Kq hx.1;have hc:=(sk l n hx).2 ⟨j,h1,h2,h3⟩;exact hn n (by have:=hx.2;omega) hc
 rw [<- h.cur];rcases hs with hs|hs|hs
 .exact hs
 .exfalso;have hnd:(i :: a8 l i).Nodup:=List.nodup_cons.2 ⟨h.not,h.nodup⟩
  have hlen:=lI l.length _ hnd (fun x hx=>by
   rcases JO.1 hx with rfl|hx
   .exact hi
   .exact h.at_ x hx)
  simp [h.len] at hlen;exact hnc i hi (m+1) (by omega) hlen (by rw [<- h.cur];exact hs)
 .exfalso;obtain ⟨a,ha⟩:=List.mem_iff_getElem?.1 hs;have ham:a<m:=by rw [<- h.len];exact (IV.1 ha).1
  rw [h.eq a ham,h.cur] at ha;have ha:=Km ha;have hat:bw l (cZ l i (a+1)):=h.at_ _ (p0 (h.eq a ham))
  have sh:∀ d,cZ l (cZ l i (a+1)) d=cZ l i (a+1+d):=by
   intro d
   induction d with
   | zero=>exact ((cR l _).resolve_right fun hh=>hh.1 hat).2
   | succ d ih=>show cM l _=cM l _;rw [ih];rfl
  refine hnc _ hat (m - a) (by omega) (by have:=h.room;omega) ?_;rw [sh,ha]
  congr 1
  omega
theorem rG (l:List Int) (h:bX l<0):∀ k:Nat,k<l.length -> ¬ f4 l (k:Int):=by
 intro k hk hc;unfold bX at h
 cases hf:(List.range l.length).find? (fun (i:Nat)=>decide (f4 l (i:Int))) with
 | none=>
  rw [List.find?_eq_none] at hf;have:=hf k (by simpa using hk);simp [hc] at this
 | some n=>
  rw [hf] at h;simp at h;omega
theorem k5 (l:List Int) (i k:Int) (hi:bw l i) (hk:bw l k):(i ∈ a8 l k) ↔ (k ∈ lh l i):=by
 obtain ⟨n,rfl⟩:=Kq hk.1;unfold lh;rw [I8 hi];simp only [I7,List.mem_filter,List.mem_range,Je];refine ⟨fun h=>⟨n,⟨by have:=hk.2;omega,fun e=>?_,h⟩,rfl⟩,fun ⟨a,⟨_,_,h⟩,e⟩=>?_⟩
 .obtain ⟨m,p,hu,_⟩:=gZ l (n:Int);rw [<- e] at h;exact hu.not h
 .have:a=n:=by omega
  subst this;exact h
end
section
theorem sW {w:World} {base:Nat} {e:TypeId} {g n c:Nat} {xs:List Value} (h:w.ownsRow base e 1 (.slice (some ⟨g,0,none⟩) n c) n xs) {k:Nat} (hk:k<=n):w.ownsRow base e 1 (.slice (some ⟨g,0,none⟩) k c) k (xs.take k):=by
 obtain ⟨hl,h|⟨g',cap,cur,hv,hb,hg,hn,hm,hs,ht⟩⟩:=h
 .exact absurd h.1 (by simp)
 .simp at hv;obtain ⟨rfl,rfl⟩:=hv;refine ⟨by simp at hl ⊢;omega,.inr ⟨g,c,cur,rfl,hb,hg,by omega,hm,hs,?_⟩⟩;rw [<- ht,List.take_take]
  congr 1
  omega
theorem sY (w:World) (v:Value) (t:TypeId):∀ j u,[v][j]? = some u -> (w.alloc (.cells #[v] t)).cell? ((⟨w.heap.size,0,none⟩:Addr).add j)=some u:=ls w [v] t
theorem j6 (w:World) (v:Value) (t:TypeId):∀ j u,[v][j]? = some u -> ((w.alloc (.cells #[v] t)).drew).cell? ((⟨w.heap.size,0,none⟩:Addr).add j)=some u:=ls w [v] t
theorem ow:(Tryz.prog.info? 182).map (fun i=>(i.zero,i.size,i.bytes))=some (some .nilIface,1,16):=by kernel_rfl
theorem n9 (t:TypeId) (x:Value):∀ u ∈ [Value.iface t x],u.oneCell'=true:=by intro u hu;simp at hu;subst hu;rfl
def yj (p:TypeId × Value):Value:=.iface p.1 p.2
def kA (base d:Nat) (ok:Bool) (w:World) (B:Nat) (e:Ending) (w':World):Prop:=∃ v xs,e=.returned (.tuple #[v,.bool ok]) /\ w'.ownsRow base 182 1 v d (List.map yj xs) /\ Below B w w'
theorem HZ (op i:Int) (v:Value) (n base B:Nat) (xs:List (TypeId × Value)) (w:World) (ho:aM op=0) (hown:w.ownsRow base 182 1 v n (xs.map yj)) (hn:n<=1000) (hB:B<=base) (hb:base<=w.heap.size) :
  Calls Tryz.prog 172 #[v,.int .i64 op,.int .i64 i] w (kA base (n+1) true w B):=by
 obtain ⟨i0,hi0,hz0,hz1,hz2⟩:=info_parts ow;have Ho:=aO ho;clear ho;obtain ⟨A,c,rfl,hc⟩:=ir hown
 go_enter Tryz.func172,Tryz.ntmps172
 go_wp2_with (first
  | (go_at_call 183;refine (je _ _).mono ?_;rintro e w' ⟨rfl,rfl⟩;rw [Ho.out])
  | (at_builtin;refine wpList_append_own _ rfl _ _ 206 rfl base 182 i0 .nilIface 1 16 Tryz.underlying206 hi0 hz0 hz1 hz2 rfl (by decide) _ _ _ rfl (hown.alloc _) ⟨w.heap.size,0,none⟩ 1 1 [.iface 219 (.agg #[.int .i64 i])] rfl rfl (sY _ _ _) (n9 _ _) (by unfold maxLen;omega) (by omega) (by simp;omega) ?_;intro v' w1 hown' hgrow _))
 go_ret2
 exact ⟨v',xs ++ [(219,.agg #[.int .i64 i])],rfl,by rw [Jl];exact hown',((Below.refl _ _).alloc (by omega) _).grown hgrow (by simp;omega) (fun k hk=>by have:=(hown.lt k hk).1;omega)⟩
theorem Il (op i:Int) (v:Value) (n base B:Nat) (xs:List (TypeId × Value)) (w:World) (ho:aM op=1) (h1:1<=n) (hown:w.ownsRow base 182 1 v n (xs.map yj)) (hn:n<=1000) (hB:B<=base) (hb:base<=w.heap.size) :
  Calls Tryz.prog 172 #[v,.int .i64 op,.int .i64 i] w (kA base n true w B):=by
 obtain ⟨i0,hi0,hz0,hz1,hz2⟩:=info_parts ow;have Ho:=aO ho;clear ho;obtain ⟨g,c,rfl,hc,hgb,hgw⟩:=nh hown (by omega);have hlen:=hown.1;rw [Jd] at hlen;obtain ⟨xt,xv,hx⟩:∃ xt xv,(xs.map yj)[n - 1]? = some (.iface xt xv):=⟨(xs[n - 1]'(by omega)).1,(xs[n - 1]'(by omega)).2,by rw [IW,IU (by omega)];rfl⟩;have hcell:=ki hown rfl hx;have hown2:=sW hown (k:=n - 1) (by omega);have Hown:=aO hown;have Hx:=aO hx;have Hlen:=aO hlen;clear hown hx hlen
 go_enter Tryz.func172,Tryz.ntmps172
 go_wp2_with (first
  | (go_at_call 183;refine (je _ _).mono ?_;rintro e w' ⟨rfl,rfl⟩;rw [Ho.out])
  | fail)
 have s1:IntKind.i64.wrap ((n:Int) - 1)=(n:Int) - 1:=IntWalk.i64_in _ (by omega);have s2:0<=(n:Int) - 1:=by omega
 have s3:((n:Int) - 1).toNat=n - 1:=by omega
 have s4:(n:Int) - 1<=(c:Int):=by omega
 have s5:(n:Int) - 1<(n:Int):=by omega
 go_region_law (refine step_append_lies _ rfl (.tmp 33) (.tmp 42) 206 rfl base 182 i0 .nilIface 1 16 Tryz.underlying206 hi0 hz0 hz1 hz2 rfl (by decide) _ (n - 1) _ rfl (hown2.alloc _).drew ⟨w.heap.size,0,none⟩ 1 1 [.iface 221 (.agg #[.int .i64 i,.iface xt xv])] rfl rfl (j6 _ _ _) (n9 _ _) (by omega) (by unfold maxLen;omega) (by omega) (by simp;omega) _ rfl ?_;intro g2 c2 w2 hown3 hg2 hat hlt)
 have h4:w2.ownsRow base 182 1 (.slice (some ⟨g2,0,none⟩) n c2) n (List.map yj (xs.take (n - 1) ++ [(221,.agg #[.int .i64 i,.iface xt xv])])):=by
  have h:=hown3;rw [Jl,List.map_take];rw [show n - 1+1=n by omega] at h;exact h
 have hbl:Below B w w2:=(((Below.refl _ _).alloc (by omega) _).drew).grown hg2 (by simp;omega) (fun k hk=>by have:=(hown2.lt k hk).1;omega)
 go_wp2_with fail
 go_ret2
 exact ⟨_,_,rfl,h4,hbl⟩
theorem Iw (op i:Int) (v:Value) (n base B:Nat) (xs:List (TypeId × Value)) (w:World) (ho:aM op=2) (h1:2<=n) (hown:w.ownsRow base 182 1 v n (xs.map yj)) (hn:n<=1000) (hB:B<=base) (hb:base<=w.heap.size) :
  Calls Tryz.prog 172 #[v,.int .i64 op,.int .i64 i] w (kA base (n - 1) true w B):=by
 obtain ⟨i0,hi0,hz0,hz1,hz2⟩:=info_parts ow;have Ho:=aO ho;clear ho;obtain ⟨g,c,rfl,hc,hgb,hgw⟩:=nh hown (by omega);have hlen:=hown.1;rw [Jd] at hlen;obtain ⟨xt,xv,hx⟩:∃ xt xv,(xs.map yj)[n - 1]? = some (.iface xt xv):=⟨(xs[n - 1]'(by omega)).1,(xs[n - 1]'(by omega)).2,by rw [IW,IU (by omega)];rfl⟩;obtain ⟨yt,yv,hy⟩:∃ xt xv,(xs.map yj)[n - 2]? = some (.iface xt xv):=⟨(xs[n - 2]'(by omega)).1,(xs[n - 2]'(by omega)).2,by rw [IW,IU (by omega)];rfl⟩;have hcell:=ki hown rfl hx;have hcelly:=ki hown rfl hy;have hown2:=sW hown (k:=n - 2) (by omega);have Hown:=aO hown;have Hx:=aO hx;have Hy:=aO hy;have Hlen:=aO hlen;clear hown hx hlen hy
 go_enter Tryz.func172,Tryz.ntmps172
 go_wp2_with (first
  | (go_at_call 183;refine (je _ _).mono ?_;rintro e w' ⟨rfl,rfl⟩;rw [Ho.out])
  | fail)
 have s1:IntKind.i64.wrap ((n:Int) - 1)=(n:Int) - 1:=IntWalk.i64_in _ (by omega);have s2:0<=(n:Int) - 1:=by omega
 have s3:((n:Int) - 1).toNat=n - 1:=by omega
 have s5:(n:Int) - 1<(n:Int):=by omega
 have s6:IntKind.i64.wrap ((n:Int) - 2)=(n:Int) - 2:=IntWalk.i64_in _ (by omega);have s7:0<=(n:Int) - 2:=by omega
 have s8:((n:Int) - 2).toNat=n - 2:=by omega
 have s9:(n:Int) - 2<=(c:Int):=by omega
 have s10:(n:Int) - 2<(n:Int):=by omega
 have s11:(1:Int)<=(n:Int):=by omega
 have s12:(2:Int)<=(n:Int):=by omega
 go_region_law (refine step_append_lies _ rfl (.tmp 54) (.tmp 68) 206 rfl base 182 i0 .nilIface 1 16 Tryz.underlying206 hi0 hz0 hz1 hz2 rfl (by decide) _ (n - 2) _ rfl (hown2.alloc _).drew ⟨w.heap.size,0,none⟩ 1 1 [.iface 223 (.agg #[.int .i64 i,.iface yt yv,.iface xt xv])] rfl rfl (j6 _ _ _) (n9 _ _) (by omega) (by unfold maxLen;omega) (by omega) (by simp;omega) _ rfl ?_;intro g2 c2 w2 hown3 hg2 hat hlt)
 all_goals
  have h4:w2.ownsRow base 182 1 (.slice (some ⟨g2,0,none⟩) (n - 2+1) c2) (n - 1) (List.map yj (xs.take (n - 2) ++ [(223,.agg #[.int .i64 i,.iface yt yv,.iface xt xv])])):=by
   have h:=hown3;rw [Jl,List.map_take];rw [show n - 2+1=n - 1 by omega] at h ⊢;exact h
  have hbl:Below B w w2:=(((Below.refl _ _).alloc (by omega) _).drew).grown hg2 (by simp;omega) (fun k hk=>by have:=(hown2.lt k hk).1;omega)
  go_wp2_with fail
  go_ret2
  exact ⟨_,_,rfl,h4,hbl⟩
theorem FT (op i:Int) (v:Value) (n base B:Nat) (xs:List (TypeId × Value)) (w:World) (ho:fa n op=none) (hown:w.ownsRow base 182 1 v n (xs.map yj)) (hn:n<=1000) (hB:B<=base) (hb:base<=w.heap.size) :
  Calls Tryz.prog 172 #[v,.int .i64 op,.int .i64 i] w fun e w'=>e=.returned (.tuple #[v,.bool false]) /\ w=w':=by
 obtain ⟨A,c,rfl,hc⟩:=ir hown;have Hown:=aO hown;clear hown
 have key:(aM op=1 /\ n=0) \/ (aM op=2 /\ n=0) \/ (aM op=2 /\ n=1) \/ aM op = -1:=by
  unfold fa at ho;have:aM op=0 \/ aM op=1 \/ aM op=2 \/ aM op = -1:=by unfold aM;(repeat' split)<;>simp
  split at ho
  .cases ho
  .split at ho
   .cases ho
   .split at ho
    .cases ho
    .omega
 clear ho;rcases key with ⟨ho,rfl⟩|⟨ho,rfl⟩|⟨ho,rfl⟩|ho
 all_goals
  have Ho:=aO ho;clear ho
  go_enter Tryz.func172,Tryz.ntmps172
  go_wp2_with (first
   | (go_at_call 183;refine (je _ _).mono ?_;rintro e w' ⟨rfl,rfl⟩;rw [Ho.out])
   | fail)
  go_ret2
  exact ⟨rfl,rfl⟩
theorem Bl (op i:Int) (v:Value) (n base B:Nat) (xs:List (TypeId × Value)) (w:World) {d:Nat} (ho:fa n op=some d) (hown:w.ownsRow base 182 1 v n (xs.map yj)) (hn:n<=1000) (hB:B<=base) (hb:base<=w.heap.size) :
  Calls Tryz.prog 172 #[v,.int .i64 op,.int .i64 i] w (kA base d true w B):=by
 unfold fa at ho;split at ho
 .cases ho;exact HZ op i v n base B xs w (by assumption) hown hn hB hb
 .split at ho
  .rename_i h;cases ho;exact Il op i v _ base B xs w h.1 h.2 hown hn hB hb
  .split at ho
   .rename_i h;cases ho;exact Iw op i v n base B xs w h.1 h.2 hown hn hB hb
   .cases ho
end
section
theorem ma (a b:List Int):∀ d,bV (a ++ b) d=(bV a d).bind (bV b):=by
 induction a with
 | nil=>intro d;rfl
 | cons x a ih=>intro d;rw [JM,bV,bV];cases fa d x<;>simp [ih]
theorem xb (a:List Int) (x:Int) (d:Nat):bV (a ++ [x]) d=(bV a d).bind fun d'=>fa d' x:=by
 rw [ma]
 cases bV a d with
 | none=>rfl
 | some d'=>simp [bV];cases fa d' x<;>rfl
theorem BZ {d op:_} {d':Nat} (h:fa d op=some d'):d'<=d+1:=by
 unfold fa at h;split at h
 .cases h;omega
 .split at h
  .cases h;omega
  .split at h
   .cases h;omega
   .cases h
def ya (r:Int) (w:World) (e:Ending) (w':World):Prop:=∃ v,e=.returned (.tuple #[v,.int .i64 r]) /\ Below w.heap.size w w'
theorem wK (l:List dP) (v:Value) (S:Nat -> Prop) (w:World) (h:(aL rJ).one w S v l) (hS:∀ b,S b -> b<w.heap.size) :
  Calls Tryz.prog 144 #[v] w (ya (bi (l.map dP.op)) w):=by
 obtain ⟨A,c,rfl,hc,hc2⟩:=dZ h;by_cases h0:l.length=0
 .have e:bi (l.map dP.op)=12:=by unfold bi;rw [I8 (by simpa using h0)]
  rw [e,h0]
  go_enter Tryz.func144,Tryz.ntmps144
  go_wp2_with fail
  go_ret2
  exact ⟨_,rfl,Below.refl _ _⟩
 .by_cases h1:64<l.length
  .have e:bi (l.map dP.op)=3:=by unfold bi;rw [I4 (by simpa using h0),I8 (by simpa using h1)]
   rw [e];have hd:(((l.length:Nat):Int) == 0)=false:=Jz.2 (by omega);have hd2:decide ((64:Int)<(l.length:Int))=true:=by simp;omega
   go_enter Tryz.func144,Tryz.ntmps144
   go_wp2_with fail
   go_ret2
   exact ⟨_,rfl,Below.refl _ _⟩
  .obtain ⟨b,o,rfl,hSb,hrow⟩:=eh h (by omega);have e:bi (l.map dP.op)=if bV (l.map dP.op) 0=some 1 then 0 else 17:=by unfold bi;rw [I4 (by simpa using h0),I4 (by simpa using h1)]
   rw [e];clear e;obtain ⟨R,hR⟩:∃ R,R=bV (l.map dP.op) 0:=⟨_,rfl⟩;rw [<- hR];obtain ⟨E,hE⟩:∃ E:Int,E=if R=some 1 then 0 else 17:=⟨_,rfl⟩;rw [<- hE];have HR:=aO hR;have HE:=aO hE;have Hsl:=aO h;clear hR hrow hE h;have hd:(((l.length:Nat):Int) == 0)=false:=Jz.2 (by omega);have hd2:decide ((64:Int)<(l.length:Int))=false:=by simp;omega
   go_enter Tryz.func144,Tryz.ntmps144
   go_wp2_with fail
   go_loopw [4,19] (fun rv iv wr=>∃ (k d:Nat) (xs:List (TypeId × Value)),k<=l.length /\ d<=k /\ iv=.int .i64 (k:Int) /\ bV ((l.take k).map dP.op) 0=some d /\ wr.ownsRow w.heap.size 182 1 rv d (xs.map yj) /\ Below w.heap.size w wr)
    (fun rv iv wr=>l.length - (intOf iv).toNat)
   case atStart=>exact ⟨0,0,[],IY _,I6 _,rfl,rfl,World.ownsRow_nil _ _ _ _,Below.refl _ _⟩
   case round=>
    obtain ⟨k,d,xs,hk,hdk,rfl,hrn,hown,hbl⟩:=hrel;have Hrn:=aO hrn;clear hrn;by_cases hlt:k<l.length
    .obtain ⟨hcs,hok⟩:=yY (lR Hsl.out hbl hS) hlt;have hnx:=xb ((l.take k).map dP.op) l[k].op 0;rw [Hrn.out] at hnx
     have hall:bV (l.map dP.op) 0=(bV ((l.take k).map dP.op ++ [l[k].op]) 0).bind (bV ((l.drop (k+1)).map dP.op)):=by
      rw [<- ma,JJ,List.singleton_append,<- JN,<- List.drop_eq_getElem_cons hlt,<- Jl,List.take_append_drop]
     rw [<- HR.out] at hall
     have htk:(l.take (k+1)).map dP.op=(l.take k).map dP.op ++ [l[k].op]:=by
      rw [Jb hlt,Jl];rfl
     have Hnx:=aO hnx;have Hall:=aO hall;have Htk:=aO htk;have Hok:=aO hok;have c0:=hcs 0 _ rfl;have c1:=hcs 1 _ rfl;have c2:=hcs 2 _ rfl;have c3:=hcs 3 _ rfl;have c4:=hcs 4 _ rfl;have c5:=hcs 5 _ rfl;have c6:=hcs 6 _ rfl;have c7:=hcs 7 _ rfl;have c8:=hcs 8 _ rfl;clear hnx hall htk hok hcs;generalize l[k]=x at *;obtain ⟨xop,xln,xlv,xrn,xrv,xnm,xus,xli,xco⟩:=x;simp only [Nat.add_zero] at c0 c1 c2 c3 c4 c5 c6 c7 c8;have hsz:w.heap.size<=wr.heap.size:=hbl.size
     cases hp:fa d xop with
     | none=>
      have Hp:=aO hp;clear hp
      go_wp2_with fail
      refine (FT _ _ _ d w.heap.size 0 xs _ Hp.out (hown.alloc _) (by omega) (IY _) (by simp;omega)).mono ?_;rintro e w' ⟨rfl,rfl⟩
      go_wp2_with fail
      go_ret2
      have e17:E=17:=by
       rw [HE.out,Hall.out,Hnx.out];simp [Hp.out]
      exact ⟨_,by rw [e17];rfl,hbl.alloc hsz _⟩
     | some d'=>
      have Hp:=aO hp;clear hp
      go_wp2_with fail
      refine (Bl _ _ _ d w.heap.size w.heap.size xs _ Hp.out (hown.alloc _) (by omega) (I6 _) (by simp;omega)).mono ?_;rintro e w' ⟨v',xs',rfl,hown',hbl'⟩;have Hown:=aO hown;clear hown
      go_wp2_with fail
      go_roundw
      case rel=>exact ⟨k+1,d',xs',by omega,by have:=BZ Hp.out;omega,by go_num,by rw [Htk.out,Hnx.out];exact Hp.out,hown',(hbl.alloc hsz _).trans hbl'⟩
      case measure=>simp [intOf];omega
    .obtain rfl:k=l.length:=by omega
     have hf:=Hrn.out;rw [I9,<- HR.out] at hf;have Hf:=aO hf;clear hf;obtain ⟨A,c',rfl,hc'⟩:=ir hown
     cases hd1:((d:Int) != 1) with
     | true=>
      have e17:E=17:=by
       rw [HE.out,Hf.out,I4 (by simp at hd1 ⊢;omega)]
      have E17:=aO e17;clear e17
      go_wp2_with fail
      go_ret2
      exact ⟨_,by rw [E17.out];rfl,hbl⟩
     | false=>
      obtain rfl:d=1:=by simp at hd1;omega
      have e0:E=0:=(by rw [HE.out,Hf.out,I8 rfl]);have E0:=aO e0;clear e0;have hxl:xs.length=1:=by have:=hown.1;simpa using this
      obtain ⟨x,rfl⟩:∃ x,xs=[x]:=List.length_eq_one_iff.1 hxl;obtain ⟨g,c2,hv,hc2',_,_⟩:=nh hown (by omega);cases hv;have hcell:=ki hown rfl (j:=0) (u:=yj x) rfl;clear hown hxl
      go_wp2_with fail
      go_ret2
      exact ⟨_,by rw [E0.out];rfl,hbl⟩
theorem yI (l:List dP) (v:Value) (S:Nat -> Prop) (w:World) (h:(aL rJ).one w S v l) (hS:∀ b,S b -> b<w.heap.size) :
  Calls Tryz.prog 128 #[v] w fun e w'=>e=.returned (.int .i64 (bi (l.map dP.op))) /\ Below w.heap.size w w':=by
 have H:=aO (wK l v S w h hS);clear h hS
 go_enter Tryz.func128,Tryz.ntmps128
 go_wp2_with (go_at_call 144;refine H.out.mono ?_;rintro e w' ⟨nv,rfl,hb⟩)
 go_ret
 exact ⟨rfl,hb⟩
end
section
end
section
def W0 (w:World) (vv:Value) (o d:Int) (dv cv:Value):World:=((w.alloc (.cells #[vv,.int .i64 o,.int .i64 d,dv,cv] 47)).alloc (.cells #[.bool false] 4)).alloc (.cells #[.int .i64 0] 61)
end
section
theorem ju (s i:Int):ap Tryz.prog 48 [eI s,eI i] (val (.bool (aR s i))):=
 bo (bC Tryz.func48 rfl (by decide)) fun S w vs hS hn hv=>by
  obtain ⟨a,b,rfl⟩:=nZ hn;obtain rfl:=xz (hv 0 a _ rfl rfl);obtain rfl:=xz (hv 1 b _ rfl rfl);exact (DJ s i w).mono fun e w' ⟨h1,h2⟩=>⟨h1,h2 ▸ Below.refl _ _⟩
theorem jL (s i:Int):ap Tryz.prog 43 [eI s,eI i] (val (.int .i64 (ba s i))):=
 bo (bC Tryz.func43 rfl (by decide)) fun S w vs hS hn hv=>by
  obtain ⟨a,b,rfl⟩:=nZ hn;obtain rfl:=xz (hv 0 a _ rfl rfl);obtain rfl:=xz (hv 1 b _ rfl rfl);exact (AJ s i w).mono fun e w' ⟨h1,h2⟩=>⟨h1,h2 ▸ Below.refl _ _⟩
theorem BI (l:List Int) (hl:l.length<=1073741824) (ho:∀ x ∈ l,aA x):ap Tryz.prog 13 [sI l] (val (.int .i64 (bX l))):=
 bo (bC Tryz.func13 rfl (by decide)) fun S w vs hS hn hv=>by
  obtain ⟨a,rfl⟩:∃ a,vs = #[a]:=⟨vs[0]'(by simp at hn;omega),by apply KS (by simpa using hn);intro i h1 h2;simp at h2;subst h2;rfl⟩;exact oE l a w hl (mF (hv 0 a _ rfl rfl) hS ho)
def bm (m:aF) (x:Bool × Int):Option (Int × Int × List az × Int):=
 if x.1=true then (if 0<=x.2 then (m.miles[x.2.toNat]?).map fun K=>(K.stage,K.event,K.cond,x.2) else none)
 else (if 0<=x.2 then (m.guards[x.2.toNat]?).map fun g=>(g.stage,g.event,g.cond,-1) else none)
def vn (m:aF) (opn st:Int):Bool:=
 ((m.stages.getD st.toNat (⟨#[]⟩,0)).2 == -1) || (decide ((m.stages.getD st.toNat (⟨#[]⟩,0)).2<m.stages.length) && aR opn (m.stages.getD st.toNat (⟨#[]⟩,0)).2)
end
section
def rY (m:aF) (st:Int):Bool:=decide (0<=st) && decide (st<(m.stages.length:Int))
def gS (m:aF) (opn:Int) (x:Bool × Int) (event:Int):Bool:=
 match bm m x with
 | some (st,ev,_,_)=>rY m st && ((ev == -1 || ev == event) && (aR opn st == x.1) && (x.1 || vn m opn st))
 | none=>false
def dC (m:aF) (s:St) (x:Bool × Int) (event:Int):Bool:=gS m s.opn x event && (match bm m x with | some (_,_,cond,_)=>DH (gU cond s) | none=>false)
end
section
def jE (l:List Ml) (st d:Int):Nat -> Int
 | 0=>d
 | k+1=>if l[k]?.map (·.stage)=some st then br (jE l st d k) (k:Int) else jE l st d k
def cw (m:aF) (s:St) (x:Bool × Int):St:=
 match bm m x with
 | some (st,_,_,mi)=>
  if rY m st=true then
   if x.1=true then { s with don:=ba s.don mi,opn:=(lh (pars m) st ++ [st]).foldl br s.opn }
   else { s with opn:=ba s.opn st,don:=jE m.miles st s.don m.miles.length }
  else s
 | none=>s
end
section
def b8 (m:aF) (event:Int) (s:St) (x:Bool × Int):St:=if dC m s x event=true then cw m s x else s
def fc (m:aF) (event:Int) (s:St) (k:Nat):St:=(m.order.take k).foldl (b8 m event) s
theorem uQ (m:aF) (s:St) (x:Bool × Int):(cw m s x).vals=s.vals /\ (cw m s x).did=s.did /\ (cw m s x).cnt=s.cnt:=by
 unfold cw;split
 .split
  .split<;>simp
  .simp
 .simp
theorem ol (m:aF) (event:Int) (s:St) (x:Bool × Int):(b8 m event s x).vals=s.vals /\ (b8 m event s x).did=s.did /\ (b8 m event s x).cnt=s.cnt:=by
 unfold b8;split
 .exact uQ m s x
 .simp
theorem gy (m:aF) (event:Int):∀ (l:List (Bool × Int)) (s:St),(l.foldl (b8 m event) s).vals=s.vals /\ (l.foldl (b8 m event) s).did=s.did /\ (l.foldl (b8 m event) s).cnt=s.cnt
 | [],s=>by simp
 | x :: l,s=>by
  have h:=gy m event l (b8 m event s x);have h2:=ol m event s x;simp [h,h2]
end
end
end Go.Proofs.YtiaiihjmmfakdaaGreat
