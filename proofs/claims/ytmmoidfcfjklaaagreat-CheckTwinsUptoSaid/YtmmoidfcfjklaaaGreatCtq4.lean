/-
  Parts of the proof: Ctp5, Ctp6.
-/
import Derived.Test.YtmmoidfcfjklaaaGreatCtq3
import Derived.RangeFuncLeaves
import Derived.RangeFuncRecord
import Derived.Test.YtmmoidfcfjklaaaGreatProg
import Derived.Laws.StructEq
import Derived.WalkKit
import Derived.WalkLawsBesides
import Derived.ProofKit
import Derived.OpenShut
import Derived.Deep.Slices
import Derived.BigQuiet
import Derived.Deep.QuietTactic
import Derived.Test.YtmmoidfcfjklaaaGreatRows
import Derived.SizedLaws
import Derived.WalkSpells
import Derived.ScopeJumps
import Derived.WalkMore
import Derived.Handy
import Derived.Deep.DeepCutAuto
import Derived.Deep.CutBlock
set_option linter.unusedVariables false
set_option linter.unusedSimpArgs false
set_option linter.defProp false
set_option maxRecDepth 100000
set_option maxHeartbeats 16000000
namespace Go.Proofs.YtmmoidfcfjklaaaGreat
open Go.RowKit
section
section
def cH (st:aj) (ren:List Nat):ae -> Prop
 | []=>True
 | (k,o) :: T=>(k<ren.length /\ (∃ e sz rows,o=some (.row e sz rows)) /\ st.tab.get (ren.getD k 0)=o) /\ cH st ren T
def fe (R:cM) (st:aj) (av:AV):Prop:=∃ ren:List Nat,ren.Nodup /\ R.r.ren ren=av /\ cH st ren R.tab
def cW (P:Program) (st:aj):List ResultVar -> (List AV -> Prop) -> Prop
 | [],K=>K []
 | .tmp t :: l,K=>cW P st l fun avs=>K (st.get t :: avs)
 | .cell p ty :: l,K=>j9 P ty st.tab (st.get p) fun av=>cW P st l fun avs=>K (av :: avs)
def gD:List AV -> AV
 | [x]=>x
 | l=>.tup l
def yW (P:Program) (rs:List ResultVar) (Post:cM -> Prop):Exit -> aj -> Prop
 | .normal,st=>cW P st rs fun avs=>∃ R,Post R /\ R.Ok /\ fe R st (gD avs)
 | .ret,st=>cW P st rs fun avs=>∃ R,Post R /\ R.Ok /\ fe R st (gD avs)
 | _,_=>False
def HH (P:Program) (rs:List ResultVar) (R:cM):Exit -> aj -> Prop
 | .normal,st=>cW P st rs fun avs=>fe R st (gD avs)
 | .ret,st=>cW P st rs fun avs=>fe R st (gD avs)
 | _,_=>False
theorem PM {P:Program} {rs:List ResultVar} {R:cM} {st:aj}:HH P rs R .ret st=cW P st rs fun avs=>fe R st (gD avs):=rfl
theorem Oy {P:Program} {rs:List ResultVar} {Post:cM -> Prop} {st:aj}:yW P rs Post .ret st=cW P st rs fun avs=>∃ R,Post R /\ R.Ok /\ fe R st (gD avs):=rfl
def Pj (P:Program) (rs:List ResultVar) (t:TypeId) (n:Nat) (Post:AV -> List AV -> List aE -> Prop):Exit -> aj -> Prop
 | .normal,st=>cW P st rs fun avs=>∃ cells' objs',Post (gD avs) cells' objs' /\ eU (gD avs) /\ (cells'.length=n /\ AV.ltL (objs'.length+1) cells' /\ ∀ o ∈ objs',bQ o) /\ dC st ⟨st.n,[(0,.op 0 0 0)],bR 0 (.box t cells' :: objs'),objs'.length+1⟩
 | .ret,st=>cW P st rs fun avs=>∃ cells' objs',Post (gD avs) cells' objs' /\ eU (gD avs) /\ (cells'.length=n /\ AV.ltL (objs'.length+1) cells' /\ ∀ o ∈ objs',bQ o) /\ dC st ⟨st.n,[(0,.op 0 0 0)],bR 0 (.box t cells' :: objs'),objs'.length+1⟩
 | _,_=>False
theorem MO {P:Program} {rs:List ResultVar} {t:TypeId} {n:Nat} {Post:AV -> List AV -> List aE -> Prop} {st:aj}:Pj P rs t n Post .ret st=cW P st rs fun avs=>∃ cells' objs',Post (gD avs) cells' objs' /\ eU (gD avs) /\ (cells'.length=n /\ AV.ltL (objs'.length+1) cells' /\ ∀ o ∈ objs',bQ o) /\ dC st ⟨st.n,[(0,.op 0 0 0)],bR 0 (.box t cells' :: objs'),objs'.length+1⟩:=rfl
def dh:Nat -> List AV -> List (Nat × AV)
 | _,[]=>[]
 | k,a :: l=>(k,a) :: dh (k+1) l
theorem iP:∀ (l:List AV) (k t:Nat),bh (dh k l) t=if k<=t then l.getD (t - k) .any else .any
 | [],k,t=>by simp [dh,bh]
 | a :: l,k,t=>by
  simp only [dh,bh];rw [iP l (k+1) t];by_cases h:t=k
  .subst h;simp
  .rw [Vh h];by_cases h2:k<=t
   .rw [Vn (by omega),Vn h2,show t - k=(t - (k+1))+1 by omega];simp
   .rw [Vh (by omega),Vh h2]
section
variable {P:Program} {cx:Cx} {a:Act} {w w':World} {tab:ae} {st:aj} {L:Nat -> Value} {nx:Nat}
theorem Aw {ren:List Nat}:∀ {T:ae} {k:Nat} {o:aE},cH st ren T -> T.get k=some o -> k<ren.length /\ (∃ e sz rows,o=.row e sz rows) /\ st.tab.get (ren.getD k 0)=some o
 | [],k,o,_,h=>by cases h
 | (j,oo) :: T,k,o,hp,h=>by
  rw [ae.gc] at h;split at h
  .rename_i e;subst e;subst h;obtain ⟨h1,⟨e,sz,rows,h2⟩,h3⟩:=hp.1;cases h2;exact ⟨h1,⟨e,sz,rows,rfl⟩,h3⟩
  .exact Aw hp.2 h
theorem lL {t:TypeId} {v u:Value} (h:(Instr.loadAt t v).run P w=.ok u w):(do loadVar t (<- asAddr v):Sem Value).run P w=.ok u w:=by
 cases v with
 | pointer p=>
  cases p with
  | none=>simp [Instr.loadAt,Instr.sureAddr,Sem.run_bind] at h
  | some ad=>simpa [Instr.loadAt,Instr.sureAddr,asAddr,Sem.run_bind] using h
 | _=>simp [Instr.loadAt,Instr.sureAddr,Sem.run_bind] at h
def np (tmps:Array Value):ResultVar -> Sem Value
 | .tmp t=>pure (tmps.getD t undef)
 | .cell p t=>do loadVar t (<- asAddr (tmps.getD p undef))
theorem tl (fn:Func) (tmps:Array Value):results fn tmps=(do
  let vs <- fn.results.mapM (np tmps)
  pure (if h:vs.size=1 then vs[0] else .tuple vs)):=by
 unfold results
 congr 1
theorem we (h:aJ cx a w st L):∀ (l:List ResultVar) (K:List AV -> Prop),cW P st l K ->
  ∃ vs avs,K avs /\ vs.length=avs.length /\ (∀ (j:Nat) (v:Value) (av:AV),vs[j]? = some v -> avs[j]? = some av -> bN cx w st.tab L v av) /\
   (l.mapM (np a.tmps):Sem (List Value)).run P w=.ok vs w
 | [],K,hp=>⟨[],[],hp,rfl,by simp,by simp⟩
 | .tmp t :: l,K,hp=>by
  obtain ⟨vs,avs,h1,h2,h3,h4⟩:=we h l _ hp;refine ⟨a.tmps.getD t undef :: vs,st.get t :: avs,h1,by simp [h2],fun j v av h5 h6=>?_,?_⟩
  .cases j with
   | zero=>
    cases h5;cases h6;exact (h.env t).1
   | succ j=>exact h3 j v av (by simpa using h5) (by simpa using h6)
  .simp only [List.mapM_cons,np,Sem.run_bind,Sem.run_pure,Result.andThen_ok,h4]
 | .cell p ty :: l,K,hp=>by
  obtain ⟨u,au,h1,h2,h3,h4⟩:=(wb (nx:=st.next) h.lay (fun id o hid=>(h.young id o hid).2) (h.env p).1 hp).one;obtain ⟨vs,avs,h5,h6,h7,h8⟩:=we h l _ h1;refine ⟨u :: vs,au :: avs,h5,by simp [h6],fun j v av h9 h10=>?_,?_⟩
  .cases j with
   | zero=>
    cases h9;cases h10;exact h2
   | succ j=>exact h7 j v av (by simpa using h9) (by simpa using h10)
  .have:=lL (h4 w (Below.refl _ _));simp only [List.mapM_cons,np];rw [Sem.run_bind,this];simp only [Sem.run_bind,Sem.run_pure,Result.andThen_ok,h8]
theorem LH {fn:Func} {K:AV -> Prop} (h:aJ cx a w st L) (hp:cW P st fn.results.toList fun avs=>K (gD avs)):∃ v av,K av /\ bN cx w st.tab L v av /\ (results fn a.tmps).run P w=.ok v w:=by
 obtain ⟨vs,avs,h1,h2,h3,h4⟩:=we h _ _ hp
 have hm:(results fn a.tmps).run P w=.ok (if h:vs.toArray.size=1 then vs.toArray[0] else .tuple vs.toArray) w:=by
  rw [tl,Sem.run_bind,Array.mapM_eq_mapM_toList];simp only [bind_pure_comp,Sem.run_map,h4];rfl
 refine ⟨_,gD avs,h1,?_,hm⟩;clear hm h4 h1
 match vs,avs,h2,h3 with
 | [v],[av],_,h3=>exact h3 0 v av rfl rfl
 | [],[],_,h3=>exact .tup _ _ rfl (by simp)
 | v :: v' :: vs,av :: av' :: avs,h2,h3=>
  simp only [gD,Xm,VI];rw [dif_neg (by omega)];exact .tup _ _ (by simpa using h2) fun j x av h4 h5=>h3 j x av (by simpa using h4) h5
end
structure iz (base:Nat) (w w':World):Prop where
 below:Below base w w'
 size:w'.heap.size=w.heap.size
 cell:∀ p,w'.cell? p=w.cell? p
 cells:∀ (k:Nat) cs t x,w.heap[k]? = some (Obj.cells cs t x) -> w'.heap[k]? = some (Obj.cells cs t x)
 maps:∀ (k:Nat) es c,w.heap[k]? = some (Obj.map es c) -> w'.heap[k]? = some (Obj.map es c)
theorem iz.refl (base:Nat) (w:World):iz base w w:=⟨Below.refl _ _,rfl,fun _=>rfl,fun _ _ _ _ h=>h,fun _ _ _ h=>h⟩
theorem iz.trans {base:Nat} {w w' w'':World} (h:iz base w w') (k:iz base w' w''):iz base w w'':=
 ⟨h.below.trans k.below,k.size.trans h.size,fun p=>(k.cell p).trans (h.cell p),fun b cs t x hb=>k.cells b cs t x (h.cells b cs t x hb),fun b es c hb=>k.maps b es c (h.maps b es c hb)⟩
theorem iz.put {base k:Nat} {w:World} {o:Option (List Deferred)} (hk:base<=k) (h:w.heap[k]? = some (.deferred o)) (o':Option (List Deferred)):iz base w (w.putObj k (.deferred o')):=by
 have hother:∀ j,j ≠ k -> (w.putObj k (.deferred o')).heap[j]? = w.heap[j]?:=fun j hj=>World.putObj_heap_other hj;have hlt:k<w.heap.size:=(VJ.1 h).1;refine ⟨⟨rfl,rfl,rfl,by simp,fun j hj=>hother j (by omega)⟩,by simp,fun p=>?_,fun j cs t x hj=>?_,fun j es c hj=>?_⟩
 .by_cases e:p.block=k
  .have h1:(w.putObj k (.deferred o')).heap[p.block]? = some (.deferred o'):=by rw [e];exact World.putObj_heap_same hlt
   have h2:w.heap[p.block]? = some (.deferred o):=by rw [e];exact h
   unfold World.cell?;rw [h1,h2]
  .exact World.cell?_of_block (hother p.block e)
 .by_cases e:j=k
  .rw [e,h] at hj;cases hj
  .rw [hother j e];exact hj
 .by_cases e:j=k
  .rw [e,h] at hj;cases hj
  .rw [hother j e];exact hj
theorem iz.turn {base k:Nat} {w:World} {o:Loop} (hk:base<=k) (h:w.heap[k]? = some (.loop o)) (o':Loop):iz base w (w.putObj k (.loop o')):=by
 have hother:∀ j,j ≠ k -> (w.putObj k (.loop o')).heap[j]? = w.heap[j]?:=fun j hj=>World.putObj_heap_other hj;have hlt:k<w.heap.size:=(VJ.1 h).1;refine ⟨⟨rfl,rfl,rfl,by simp,fun j hj=>hother j (by omega)⟩,by simp,fun p=>?_,fun j cs t x hj=>?_,fun j es c hj=>?_⟩
 .by_cases e:p.block=k
  .have h1:(w.putObj k (.loop o')).heap[p.block]? = some (.loop o'):=by rw [e];exact World.putObj_heap_same hlt
   have h2:w.heap[p.block]? = some (.loop o):=by rw [e];exact h
   unfold World.cell?;rw [h1,h2]
  .exact World.cell?_of_block (hother p.block e)
 .by_cases e:j=k
  .rw [e,h] at hj;cases hj
  .rw [hother j e];exact hj
 .by_cases e:j=k
  .rw [e,h] at hj;cases hj
  .rw [hother j e];exact hj
section
variable {cx:Cx} {a:Act} {w w':World} {st:aj} {L:Nat -> Value}
theorem uz (h:aJ cx a w st L) (hk:iz cx.w0.heap.size w w') {ds:List Deferred} (hm:jt cx.w0.heap.size w' (Sx cx w' st.tab L) ds):aJ cx { a with defers:=ds } w' st L:=by
 have hS:∀ b,Sx cx w st.tab L b -> Sx cx w' st.tab L b:=fun b hb=>⟨by rw [hk.size];exact hb.1,hb.2.1,hb.2.2⟩;have hrv:∀ {x av nx},bN cx w st.tab L x av -> av.lt nx -> bN cx w' st.tab L x av:=fun hr hl=>hr.mono hl (fun p _=>hk.cell p) hS (fun _ _ _ h=>h);refine ⟨⟨h.lay.below.trans (jQ hk.below),fun id o hid=>?_,h.lay.sep,fun b hb=>⟨by rw [hk.size];exact (h.lay.ex b hb).1,(h.lay.ex b hb).2⟩⟩,h.size,hm,h.young,fun t=>⟨hrv (h.env t).1 (h.env t).2,(h.env t).2⟩⟩;have ho:=h.lay.objs id o hid;have hy:=(h.young id o hid).2
 cases o with
 | box t cells=>
  obtain ⟨g,cs,h1,h2,h3,h4,h5⟩:=ho;exact ⟨g,cs,h1,h2,hk.cells _ _ _ _ h3,h4,fun j x av h6 h7=>⟨hrv (h5 j x av h6 h7).1 (ak.1 hy _ (p0 h7)),(h5 j x av h6 h7).2⟩⟩
 | row e sz rows=>
  obtain ⟨h1,xs,hown,h2,h3⟩:=ho;refine ⟨h1,xs,⟨hown.1,?_⟩,h2,fun i j row av ha hb=>?_⟩
  .rcases hown.2 with hn | ⟨g,cap,cur,h4,hb,hh,rest⟩
   .exact .inl hn
   .exact .inr ⟨g,cap,cur,h4,hb,hk.cells _ _ _ _ hh,rest⟩
  .obtain ⟨x,hx,hr⟩:=h3 i j row av ha hb;exact ⟨x,hx,hr.mono (fun p _=>hk.cell p) hS⟩
 | map ents=>
  obtain ⟨b,es,ck,h1,h2,h3,h4⟩:=ho;exact ⟨b,es,ck,h1,h2,hk.maps _ _ _ h3,h4⟩
 | nest e sz rows=>
  obtain ⟨h1,xs,hown,h2,h3⟩:=ho;refine ⟨h1,xs,⟨hown.1,?_⟩,h2,fun i j row av ha hb=>?_⟩
  .rcases hown.2 with hn | ⟨g,cap,cur,h4,hb,hh,rest⟩
   .exact .inl hn
   .exact .inr ⟨g,cap,cur,h4,hb,hk.cells _ _ _ _ hh,rest⟩
  .obtain ⟨x,hx,hr⟩:=h3 i j row av ha hb;exact ⟨x,hx,hrv hr (ak.1 (hy row (p0 ha)) _ (p0 hb))⟩
 | ghost vs env=>exact ⟨ho.1,fun t ht=>hrv (ho.2 t ht) (fU hy t)⟩
end
theorem BM {cx:Cx} {a:Act} {w w':World} {st:aj} {L:Nat -> Value} (h:aJ cx a w st L) (hk:iz cx.w0.heap.size w w'):aJ cx { a with defers:=[] } w' st L:=uz h hk (jt.nil _ _ _)
theorem nX {P:Program} {fn:Func} {tmps:Array Value} {R:Ending -> World -> Prop} {base:Nat} {S:Nat -> Prop}:∀ (ds:List Deferred) (w:World),jt base w S ds -> (∀ w',iz base w w' -> LeavesIn Fence.wide 0 P fn tmps R [] .returning w') -> LeavesInM Fence.wide 0 P fn tmps R ds .returning w
 | [],w,_,h=>h w (iz.refl _ _)
 | d :: ds,w,hm,h=>by
  obtain ⟨k,rfl,h1,h2,h3⟩:=hm.2 d (V1 ..);have hk:=iz.put h1 h2 none;refine ⟨by simp,.inl ⟨k,_,rfl,run_takeDeferred h2,nX (S:=S) ds _ ⟨(List.nodup_cons.1 hm.1).2,fun d' hd'=>?_⟩ fun w' hw'=>h w' (hk.trans hw')⟩⟩;obtain ⟨k',rfl,h4,h5,h6⟩:=hm.2 d' (VT _ hd');refine ⟨k',rfl,h4,?_,h6⟩;have hne:k' ≠ k:=fun e=>(List.nodup_cons.1 hm.1).1 (by rw [<- e];exact hd');rw [World.putObj_heap_other hne];exact h5
theorem ni {P : Program} {f : FuncId} {fn : Func} {c : Code} (hf : P.funcs[f]? = some fn) (hb : fn.body = some c) (hname : (fn.name == "runtime.NumGoroutine") = false) {args : List AV} {Post : cM → Prop} {n : Nat} (hnt : fn.ntmps = n) {rs : List ResultVar} (hrs : fn.results = rs.toArray) (hn : Nat.ble args.length n = true)
  (h:∀ (cx:Cx) (a:Act) (w:World) (L:Nat -> Value),aJ cx a w ⟨n,dh 0 args,[],0⟩ L -> c.wp P (px cx (yW P rs Post)) a w):dt P f args Post:=by
 have hn:=WW hn;subst hnt;have hrs:fn.results.toList=rs:=by rw [hrs]
 refine ⟨fun vs w=>?_,fun S w vs hS hvs hv=>?_⟩
 ·have : ¬ fn.name = "runtime.NumGoroutine" := by simpa using hname
  simp [callFunc,Sem.run_bind,hf,this,hb]
 .let cx:Cx:=(Cx.mk0 S w hS)
  refine (callsIn_wide (n:=0)).1 (callsIn_of_wp_marks hf hb trivial (wpIn_wide.2 ?_));have hL:iL cx w [] (fun _=>undef):=⟨jQ (Below.refl _ _),fun id o h=>(by cases h),fun id id' o o' g h=>(by cases h),fun b hb=>hb.elim⟩
  have hC:aJ cx { tmps:=vs ++ Array.replicate (fn.ntmps - vs.size) undef,defers:=[] } w ⟨fn.ntmps,dh 0 args,[],0⟩ (fun _=>undef):=by
   refine ⟨hL,?_,jt.nil _ _ _,fun id o h=>(by cases h),fun t=>?_⟩
   .simp;omega
   have e:(⟨fn.ntmps,dh 0 args,[],0⟩:aj).get t=args.getD t .any:=by
    show (if t<fn.ntmps then bh (dh 0 args) t else .any)=_;rw [iP];split
    .simp
    .simp [List.getD,Vs (show args.length<=t by omega)]
   rw [e];by_cases ht:t<args.length
   .have ht':t<vs.size:=by omega
    have e2:(vs ++ Array.replicate (fn.ntmps - vs.size) undef).getD t undef=vs[t]:=by
     rw [V9,V5 ht',Vj ht'];rfl
    have e3:args.getD t .any=args[t]:=(by simp [List.getD,ht]);rw [e2,e3];have:=hv t _ _ (Vj ht') (f4 ht);exact ⟨.tree (this.mono (fun _ _=>rfl) fun b hb=>⟨hS b hb,⟨.inl hb,fun h=>h⟩,fun id o h=>by cases h⟩),this.lt 0⟩
   .have e3:args.getD t .any=.any:=(by simp [List.getD,Vs (Nat.le_of_not_lt ht)]);rw [e3];exact ⟨.tree (.any _),trivial⟩
  refine Code.wp_mono (fun e a w' ⟨st,L,h1,h2⟩=>?_) (h cx _ w _ hC);rw [<- hrs] at h1
  have key:(cW P st fn.results.toList fun avs=>∃ R,Post R /\ R.Ok /\ fe R st (gD avs)) -> LeavesInM Fence.wide 0 P fn a.tmps (fun e w'=>∃ v' L R,Post R /\ R.Ok /\ e=.returned v' /\ iL cx w' R.tab L /\ bN cx w' R.tab L v' R.r) a.defers .returning w':=fun h1=>by
   refine nX _ _ h2.defers fun w2 hk2=>?_;have h2:=BM h2 hk2;clear hk2;generalize w2=w' at h2;obtain ⟨v,av,⟨R,hPost,hok,ren,hnd,hr,ht⟩,h4,h5⟩:=LH (K:=fun av=>∃ R,Post R /\ R.Ok /\ fe R st av) h2 h1;refine ⟨v,h5,v,fun k=>L (ren.getD k 0),R,hPost,hok,rfl,?_⟩;subst hr;have hget:=fun k o=>Aw (st:=st) (T:=R.tab) (k:=k) (o:=o) ht;have hsub:∀ b,Sx cx w' st.tab L b -> Sx cx w' R.tab (fun k=>L (ren.getD k 0)) b:=fun b hb=>⟨hb.1,hb.2.1,fun k o hk=>hb.2.2 _ o (hget k o hk).2.2⟩;refine ⟨⟨h2.lay.below,fun k o hk=>?_,fun k k' o o' g h6 h7 h8 h9=>?_,fun b hb=>hb.elim⟩,pv hsub (fun k p hk=>?_) _ _ h4⟩
   .obtain ⟨h6,⟨e,sz,rows,rfl⟩,h7⟩:=hget k o hk;obtain ⟨h8,xs,h9,h10,h11⟩:=h2.lay.objs _ _ h7;refine ⟨h8,xs,h9,h10,fun i j row av h12 h13=>?_⟩;obtain ⟨x,hx,hrt⟩:=h11 i j row av h12 h13;exact ⟨x,hx,hrt.mono (fun _ _=>rfl) hsub⟩
   .obtain ⟨ha,_,hb⟩:=hget k o h6;obtain ⟨ha',_,hb'⟩:=hget k' o' h7;have:=h2.lay.sep _ _ o o' g hb hb' h8 h9;simp only [List.getD,f4 ha,f4 ha',VH] at this;have hp:=Wk.1 hnd;rcases Xa k k' with hlt|he|hlt
    .exact absurd this (hp k k' ha ha' hlt)
    .exact he
    .exact absurd this.symm (hp k' k ha' ha hlt)
   .unfold Kx at *
    cases ho:R.tab.get k with
    | none=>simp [ho] at hk
    | some o=>
     rw [(hget k o ho).2.2];simpa [ho] using hk
  cases e with
  | normal=>exact key h1
  | ret=>exact key h1
  | _=>exact h1.elim
theorem mF {P:Program} {st:aj}:∀ {l:List ResultVar} {K K':List AV -> Prop},(∀ avs,K avs -> K' avs) -> cW P st l K -> cW P st l K'
 | [],K,K',h,hp=>h _ hp
 | .tmp t :: l,K,K',h,hp=>mF (l:=l) (fun avs h2=>h _ h2) hp
 | .cell p ty :: l,K,K',h,hp=>by
  have step:∀ av,(cW P st l fun avs=>K (av :: avs)) -> cW P st l fun avs=>K' (av :: avs):=fun av=>mF (l:=l) (fun avs h2=>h _ h2)
  have take:∀ cs,oT P ty cs (fun av=>cW P st l fun avs=>K (av :: avs)) -> oT P ty cs (fun av=>cW P st l fun avs=>K' (av :: avs)):=fun cs ⟨h1,h2,h3⟩=>⟨h1,h2,by
   split at h3
   .rw [Vn (by assumption)];exact step _ h3
   .rw [Vh (by assumption)];exact step _ h3⟩
  unfold cW j9 at hp ⊢;split at hp
  .exact take _ hp
  .split at hp
   .rename_i h0
    first|simp only [h0]|skip
    exact ⟨hp.1,take _ hp.2⟩
   .rename_i h0
    first|simp only [h0]|skip
    exact ⟨hp.1,take _ hp.2⟩
   .rename_i h0
    first|simp only [h0]|skip
    exact ⟨hp.1,take _ hp.2⟩
   .exact hp.elim
  .exact hp.elim
theorem Tf {P:Program} {rs:List ResultVar} {R:cM} (hok:R.Ok) (e:Exit) (st:aj) (h:HH P rs R e st):yW P rs (fun R'=>R'=R) e st:=by
 cases e with
 | normal=>exact mF (fun avs h=>⟨R,rfl,hok,h⟩) h
 | ret=>exact mF (fun avs h=>⟨R,rfl,hok,h⟩) h
 | _=>exact h.elim
theorem r8 {P : Program} {f : FuncId} {fn : Func} {c : Code} (hf : P.funcs[f]? = some fn) (hb : fn.body = some c) (hname : (fn.name == "runtime.NumGoroutine") = false) {args : List AV} {R : cM} {n : Nat} (hnt : fn.ntmps = n) {rs : List ResultVar} (hrs : fn.results = rs.toArray) (hn : Nat.ble args.length n = true)
  (hok:R.Ok) (h:∀ (cx:Cx) (a:Act) (w:World) (L:Nat -> Value),aJ cx a w ⟨n,dh 0 args,[],0⟩ L -> c.wp P (px cx (HH P rs R)) a w):aw P f args R:=
 ni hf hb hname hnt hrs hn fun cx a w L hc=>Code.wp_mono (fun e a w ⟨st,L,h1,h2⟩=>⟨st,L,Tf hok e st h1,h2⟩) (h cx a w L hc)
theorem bm {P : Program} (hm : P.follows .mixedOrders = true) {f : FuncId} {fn : Func} {c : Code} (hf : P.funcs[f]? = some fn) (hb : fn.body = some c) (hname : (fn.name == "runtime.NumGoroutine") = false) {args : List AV} {Post : cM → Prop} {n : Nat} (hnt : fn.ntmps = n) {rs : List ResultVar} (hrs : fn.results = rs.toArray) (hn : Nat.ble args.length n = true)
  (h:bB P c (yW P rs Post) ⟨n,dh 0 args,[],0⟩):dt P f args Post:=
 ni hf hb hname hnt hrs hn fun cx a w L hc=>oc hm c _ a w _ L hc h
theorem aa {P : Program} (hm : P.follows .mixedOrders = true) {f : FuncId} {fn : Func} {c : Code} (hf : P.funcs[f]? = some fn) (hb : fn.body = some c) (hname : (fn.name == "runtime.NumGoroutine") = false) {args : List AV} {R : cM} {n : Nat} (hnt : fn.ntmps = n) {rs : List ResultVar} (hrs : fn.results = rs.toArray) (hn : Nat.ble args.length n = true)
  (hok:R.Ok) (h:bB P c (HH P rs R) ⟨n,dh 0 args,[],0⟩):aw P f args R:=
 r8 hf hb hname hnt hrs hn hok fun cx a w L hc=>oc hm c _ a w _ L hc h
end
section
def md (st:aj):List (Nat × AV) -> Prop
 | []=>True
 | (t,av) :: l=>st.get t=av /\ md st l
def lV (st:aj):ae -> Prop
 | []=>True
 | (id,o) :: l=>st.tab.get id=o /\ lV st l
def cO (nx:Nat):ae -> Prop
 | []=>True
 | (id,some o) :: l=>(id<nx /\ o.lt nx) /\ cO nx l
 | (_,none) :: l=>cO nx l
theorem vy {st:aj} {nx:Nat}:∀ {l:List (Nat × AV)} (t:Nat),md st l -> dD nx l -> (bh l t=st.get t \/ bh l t=.any) /\ (bh l t).lt nx
 | [],t,_,_=>⟨.inr rfl,trivial⟩
 | (k,av) :: l,t,h,hl=>by
  unfold bh;split
  .rename_i e;rw [e];exact ⟨.inl h.1.symm,hl.1⟩
  .exact vy t h.2 hl.2
theorem mA {st:aj} {nx:Nat}:∀ {l:ae} {id:Nat} {o:aE},lV st l -> cO nx l -> l.get id=some o -> st.tab.get id=some o /\ id<nx /\ o.lt nx
 | [],id,o,_,_,h=>by cases h
 | (k,oo) :: l,id,o,h,hl,hg=>by
  rw [ae.gc] at hg;split at hg
  .rename_i e;subst e;subst hg;exact ⟨h.1,hl.1.1,hl.1.2⟩
  .cases oo with
   | none=>exact mA h.2 hl hg
   | some=>exact mA h.2 hl.2 hg
theorem Ih {st:aj} {n nx:Nat} {env:List (Nat × AV)} {tab:ae} (hn:st.n=n) (he:md st env) (ht:lV st tab) (hl:dD nx env) (hl2:cO nx tab):dC st ⟨n,env,tab,nx⟩:=by
 intro cx a w L h;have hsub:∀ id o,tab.get id=some o -> st.tab.get id=some o:=fun id o hid=>(mA ht hl2 hid).1;have hS:∀ b,Sx cx w st.tab L b -> Sx cx w tab L b:=fun b hb=>⟨hb.1,hb.2.1,fun id o hid=>hb.2.2 id o (hsub id o hid)⟩
 have hK:∀ id p,Kx tab L id=some p -> Kx st.tab L id=some p:=fun id p hk=>by
  unfold Kx at *
  cases ho:tab.get id with
  | none=>simp [ho] at hk
  | some o=>rw [hsub id o ho];simpa [ho] using hk
 have hrv:∀ x av,bN cx w st.tab L x av -> bN cx w tab L x av:=fun x av hr=>by
  have:∀ nx',av.lt nx' -> bN cx w tab L x av:=fun nx' hlt=>hr.mono hlt (fun _ _=>rfl) hS (fun id p _ hk=>hK id p hk)
  induction hr with
  | tree h=>exact .tree (h.mono (fun _ _=>rfl) hS)
  | osl x id h=>exact .osl x id fun sz v e=>h sz v (hK id _ e)
  | op x id i j h=>exact .op x id i j fun sz v e=>h sz v (hK id _ e)
  | agg xs cs hn hr ih=>exact .agg xs cs hn fun j x av h1 h2=>ih j x av h1 h2 fun nx' hlt=>(hr j x av h1 h2).mono hlt (fun _ _=>rfl) hS (fun id p _ hk=>hK id p hk)
  | tup xs cs hn hr ih=>exact .tup xs cs hn fun j x av h1 h2=>ih j x av h1 h2 fun nx' hlt=>(hr j x av h1 h2).mono hlt (fun _ _=>rfl) hS (fun id p _ hk=>hK id p hk)
  | fn fi xs cs hn hr ih=>exact .fn fi xs cs hn fun j x av h1 h2=>ih j x av h1 h2 fun nx' hlt=>(hr j x av h1 h2).mono hlt (fun _ _=>rfl) hS (fun id p _ hk=>hK id p hk)
  | bfn fi xs cs hn hr ih=>exact .bfn fi xs cs hn fun j x av h1 h2=>ih j x av h1 h2 fun nx' hlt=>(hr j x av h1 h2).mono hlt (fun _ _=>rfl) hS (fun id p _ hk=>hK id p hk)
 refine ⟨L,⟨⟨h.lay.below,fun id o hid=>?_,fun id id' o o' g h1 h2=>h.lay.sep id id' o o' g (hsub id o h1) (hsub id' o' h2),fun b hb=>⟨(h.lay.ex b hb).1,fun id o hid=>(h.lay.ex b hb).2 id o (hsub id o hid)⟩⟩,h.size.trans hn,h.defers.mono (fun _ _=>rfl) hS,fun id o hid=>(mA ht hl2 hid).2,fun t=>?_⟩,hS⟩
 .have ho:=h.lay.objs id o (hsub id o hid);have hext:mM cx w st.tab L 0 w tab L:=⟨fun _ _=>rfl,hS,fun id p hlt=>by omega⟩
  cases o with
  | box t cells=>
   obtain ⟨g,cs,h1,h2,h3,h4,h5⟩:=ho;exact ⟨g,cs,h1,h2,h3,h4,fun j x av h6 h7=>⟨hrv x av (h5 j x av h6 h7).1,(h5 j x av h6 h7).2⟩⟩
  | row e sz rows=>
   obtain ⟨h1,xs,h2,h3,h4⟩:=ho;refine ⟨h1,xs,h2,h3,fun i j row av h5 h6=>?_⟩;obtain ⟨x,hx,hr⟩:=h4 i j row av h5 h6;exact ⟨x,hx,hext.rt hr⟩
  | map ents=>exact ho
  | nest e sz rows=>
   obtain ⟨h1,xs,h2,h3,h4⟩:=ho;refine ⟨h1,xs,h2,h3,fun i j row av h5 h6=>?_⟩;obtain ⟨x,hx,hr⟩:=h4 i j row av h5 h6;exact ⟨x,hx,hrv x av hr⟩
  | ghost vs env=>exact ⟨ho.1,fun t ht=>hrv _ _ (ho.2 t ht)⟩
 .obtain ⟨h1,h2⟩:=vy t he hl;show bN cx w tab L _ (if t<n then bh env t else .any) /\ (if t<n then bh env t else .any).lt nx;split
  case isFalse=>exact ⟨.tree (.any _),trivial⟩
  refine ⟨?_,h2⟩;rcases h1 with h1|h1
  .rw [h1];exact hrv _ _ (h.env t).1
  .rw [h1];exact .tree (.any _)
theorem dC.trans {st st' st'':aj} (h:dC st st') (h2:dC st' st''):dC st st'':=fun cx a w L hc=>(h cx a w L hc).elim fun L' hc'=>(h2 cx a w L' hc'.1).elim fun L2 h3=>⟨L2,h3.1,fun b hb=>h3.2 b (hc'.2 b hb)⟩
def w8 (l:List Nat):List (Nat × AV) -> List (Nat × AV)
 | []=>[]
 | (t,av) :: r=>(t,av.ren l) :: w8 l r
theorem sb (l:List Nat):∀ (r:List (Nat × AV)) (t:Nat),bh (w8 l r) t=(bh r t).ren l
 | [],t=>rfl
 | (q,av) :: r,t=>by
  unfold w8 bh;split
  .rfl
  .exact sb l r t
def aE.ren (l:List Nat):aE -> aE
 | .box t cells=>.box t (AV.renL l cells)
 | .row e sz rows=>.row e sz rows
 | .nest e sz rows=>.nest e sz (rows.map (AV.renL l))
 | .map ents=>.map ents
 | .ghost vs env=>.ghost vs (w8 l env)
theorem aE.ren_sz (l:List Nat) (o:aE):(o.ren l).sz=o.sz:=by cases o<;>simp [aE.ren,aE.sz,bx]
def jP (st:aj) (ids:List Nat):List (Nat × AV) -> Prop
 | []=>True
 | (t,av) :: l=>st.get t=av.ren ids /\ jP st ids l
def i6 (st:aj) (ids:List Nat):ae -> Prop
 | []=>True
 | (id,some o) :: l=>(id<ids.length /\ st.tab.get (ids.getD id 0)=some (o.ren ids)) /\ i6 st ids l
 | (_,none) :: l=>i6 st ids l
theorem rZ {st:aj} {ids:List Nat} {nx:Nat}:∀ {l:List (Nat × AV)} (t:Nat),jP st ids l -> dD nx l -> ((bh l t).ren ids=st.get t \/ bh l t=.any) /\ (bh l t).lt nx
 | [],t,_,_=>⟨.inr rfl,trivial⟩
 | (k,av) :: l,t,h,hl=>by
  unfold bh;split
  .rename_i e;rw [e];exact ⟨.inl h.1.symm,hl.1⟩
  .exact rZ t h.2 hl.2
theorem lc {st:aj} {ids:List Nat} {nx:Nat}:∀ {l:ae} {id:Nat} {o:aE},i6 st ids l -> cO nx l -> l.get id=some o -> (id<ids.length /\ st.tab.get (ids.getD id 0)=some (o.ren ids)) /\ id<nx /\ o.lt nx
 | [],id,o,_,_,h=>by cases h
 | (k,some oo) :: l,id,o,h,hl,hg=>by
  rw [ae.gc] at hg;split at hg
  .rename_i e;subst e;cases hg;exact ⟨h.1,hl.1.1,hl.1.2⟩
  .exact lc h.2 hl.2 hg
 | (k,none) :: l,id,o,h,hl,hg=>by
  rw [ae.gc] at hg;split at hg
  .cases hg
  .exact lc (l:=l) h hl hg
theorem IT {st:aj} {n nx:Nat} {env:List (Nat × AV)} {tab:ae} (ids:List Nat) (hnd:ids.Nodup) (hn:st.n=n) (he:jP st ids env) (ht:i6 st ids tab) (hl:dD nx env) (hl2:cO nx tab):dC st ⟨n,env,tab,nx⟩:=by
 intro cx a w L h;have hget:∀ k o,tab.get k=some o -> k<ids.length /\ st.tab.get (ids.getD k 0)=some (o.ren ids):=fun k o hk=>(lc ht hl2 hk).1;have hS:∀ b,Sx cx w st.tab L b -> Sx cx w tab (fun k=>L (ids.getD k 0)) b:=fun b hb=>⟨hb.1,hb.2.1,fun k o hk=>hb.2.2 _ _ (hget k o hk).2⟩
 have hK:∀ k p,Kx tab (fun k=>L (ids.getD k 0)) k=some p -> Kx st.tab L (ids.getD k 0)=some p:=fun k p hk=>by
  unfold Kx at *
  cases ho:tab.get k with
  | none=>simp [ho] at hk
  | some o=>
   rw [(hget k o ho).2];simpa [ho,aE.ren_sz] using hk
 refine ⟨fun k=>L (ids.getD k 0),⟨⟨h.lay.below,fun k o hk=>?_,fun k k' o o' g h6 h7 h8 h9=>?_,fun b hb=>⟨(h.lay.ex b hb).1,fun k o hk=>(h.lay.ex b hb).2 _ _ (hget k o hk).2⟩⟩,h.size.trans hn,h.defers.mono (fun _ _=>rfl) hS,fun id o hid=>(lc ht hl2 hid).2,fun t=>?_⟩,hS⟩
 .obtain ⟨_,h7⟩:=hget k o hk;have ho:=h.lay.objs _ _ h7
  cases o with
  | box t cells=>
   obtain ⟨g,cs,h1,h2,h3,h4,h5⟩:=ho;refine ⟨g,cs,h1,h2,h3,by simpa [bx] using h4,fun j x av h6 h8=>?_⟩;have h9:=h5 j x (av.ren ids) h6 (by rw [bx,Ve,h8];rfl);exact ⟨pv hS hK av x h9.1,h9.2⟩
  | row e sz rows=>
   obtain ⟨h1,xs,h2,h3,h4⟩:=ho;refine ⟨h1,xs,h2,h3,fun i j row av h5 h6=>?_⟩;obtain ⟨x,hx,hr⟩:=h4 i j row av h5 h6;exact ⟨x,hx,hr.mono (fun _ _=>rfl) hS⟩
  | map ents=>exact ho
  | nest e sz rows=>
   obtain ⟨h1,xs,h2,h3,h4⟩:=ho;refine ⟨fun row hr=>by simpa [bx] using h1 (AV.renL ids row) (Vt.2 ⟨row,hr,rfl⟩),xs,by simpa using h2,h3,fun i j row av h5 h6=>?_⟩;obtain ⟨x,hx,hr⟩:=h4 i j (AV.renL ids row) (av.ren ids) (by rw [Ve,h5];rfl) (by rw [bx,Ve,h6];rfl);exact ⟨x,hx,pv hS hK _ _ hr⟩
  | ghost vs env=>
   refine ⟨ho.1,fun t ht=>pv hS hK _ _ ?_⟩;have h9:=ho.2 t ht
   rwa [sb] at h9
 .obtain ⟨ha,hb⟩:=hget k o h6;obtain ⟨ha',hb'⟩:=hget k' o' h7;have:=h.lay.sep _ _ _ _ g hb hb' h8 h9;simp only [List.getD,f4 ha,f4 ha',VH] at this;have hp:=Wk.1 hnd;rcases Xa k k' with hlt|he|hlt
  .exact absurd this (hp k k' ha ha' hlt)
  .exact he
  .exact absurd this.symm (hp k' k ha' ha hlt)
 .obtain ⟨h1,h2⟩:=rZ t he hl;show bN cx w tab _ _ (if t<n then bh env t else .any) /\ (if t<n then bh env t else .any).lt nx;split
  case isFalse=>exact ⟨.tree (.any _),trivial⟩
  refine ⟨?_,h2⟩;rcases h1 with h1|h1
  .refine pv hS hK _ _ ?_;rw [h1];exact (h.env t).1
  .rw [h1];exact .tree (.any _)
theorem bA {st:aj} (t e sz:Nat) (hg:st.get t=.c (.slice none 0 0)):dC st ⟨st.n,(t,.osl st.next) :: st.env,(st.next,some (.row e sz [])) :: st.tab,st.next+1⟩:=by
 intro cx a w L h;have hv:=(h.env t).1;rw [hg] at hv;have hv:=hv.c_inv
 have hput:a.put (some t) (.slice none 0 0)=a:=by
  unfold Act.put
  have:a.tmps.setIfInBounds t (.slice none 0 0)=a.tmps:=by
   apply Array.ext (by simp);intro i h1 h2;rw [Array.getElem_setIfInBounds];split
   .rename_i e;subst e;rw [<- hv];simp [Array.getD,h2]
   .rfl
  simp only [this]
 refine ⟨bq L st.next (.slice none 0 0),?_,fun b hb=>⟨hb.1,hb.2.1,fun k o hk hg=>?_⟩⟩
 rotate_left
 .have hk:ae.get ((st.next,some (.row e sz [])) :: st.tab) k=some o:=hk;rw [ae.gc] at hk;unfold bq at hg;split at hk
  .rename_i e1;rw [Vn e1] at hg;simp [aO] at hg
  .rename_i e1;rw [Vh e1] at hg;exact hb.2.2 k o hk hg
 have:=j6 (ob:=.row e sz []) (v:=.slice none 0 0) (x:=.slice none 0 0) (av:=.osl st.next) h (Below.refl _ _) (fun g hg=>by simp [aO] at hg) (fun hext=>⟨by simp,[],ko ..,by simp,by simp⟩) trivial (fun hext=>?_) (Wb _) (some t)
 .rw [hput] at this;exact this
 .refine .osl _ _ fun sz u hk=>?_;simp [Kx,ae.gc,bq] at hk;exact hk.2
theorem j8 {st:aj} {n nx:Nat} {env:List (Nat × AV)} {tab:ae} (h:st.n=n /\ (md st env /\ lV st tab) /\ dD nx env /\ cO nx tab):dC st ⟨n,env,tab,nx⟩:=Ih h.1 h.2.1.1 h.2.1.2 h.2.2.1 h.2.2.2
theorem mo {st:aj} {n nx:Nat} {env:List (Nat × AV)} {tab:ae} (ids:List Nat) (h:ids.Nodup /\ st.n=n /\ (jP st ids env /\ i6 st ids tab) /\ dD nx env /\ cO nx tab):dC st ⟨n,env,tab,nx⟩:=IT ids h.1 h.2.1 h.2.2.1.1 h.2.2.1.2 h.2.2.2.1 h.2.2.2.2
def ax (st:aj) (t:Nat):Nat:=match st.get t with | .c (.int _ n)=>n.toNat | _=>0
theorem aD {x:Int} (h1:-9223372036854775808<=x) (h2:x<=9223372036854775807):IntKind.i64.wrap x=x:=by
 rw [IntKind.wrap_i64];omega
theorem n9 {k:Nat} (h:k<=4611686018427387904):IntKind.i64.wrap ((k:Int)+1)=((k+1:Nat):Int):=by
 rw [aD (by omega) (by omega)];omega
def val (v:Value):cM:=⟨.c v,[],0⟩
theorem aL (v:Value):(val v).Ok:=⟨fun id o h=>(by cases h),trivial⟩
theorem vL {v:Value} {st:aj} {av:AV} (h:av=.c v):fe (val v) st av:=⟨[],List.nodup_nil,by rw [h];rfl,trivial⟩
theorem B9 {v:Value} {st:aj} {av:AV}:fe (val v) st av=(av=.c v):=propext ⟨fun ⟨ren,_,h,_⟩=>h.symm,vL⟩
abbrev eI (n:Int):AV:=.c (.int .i64 n)
abbrev eB (b:Bool):AV:=.c (.bool b)
abbrev eS (s:ByteArray):AV:=.c (.string s)
abbrev sI (l:List Int):AV:=.sl 1 (l.map fun n=>[eI n])
theorem ab {α:Type} {f:α -> List AV} {l:List α} {k:Nat} (h:k<l.length):(l.map f)[k]?.getD []=f l[k]:=by
 rw [Ve,f4 h];rfl
theorem aP {P:Program} {g:FuncId} {args:List AV} {v:Value} {K:Value -> Prop} (h:aw P g args (val v)) (hk:K v):∃ v,aw P g args ⟨.c v,[],0⟩ /\ K v:=⟨v,h,hk⟩
theorem cU {I:aj -> Prop} {μ:aj -> Nat} {n:Nat} {st st':aj} (hw:dC st st') (hI:I st') (hm:μ st'<n):sU I μ n st:=⟨st',hw,hI,hm⟩
end
section
theorem Sh:bt Tryz.prog 33=(61,7):=by kernel_rfl
theorem T9:Ab Tryz.prog 3=R7.int:=by kernel_rfl
theorem Rs:bM Tryz.prog 32=true:=by kernel_rfl
theorem Sk:aq Tryz.prog 32=10:=by kernel_rfl
theorem Ti:bW Tryz.prog 39=some (Value.agg #[Value.slice none 0 0,Value.slice none 0 0]):=by kernel_rfl
theorem PQ:bW Tryz.prog 40=some (Value.agg #[Value.slice none 0 0,Value.slice none 0 0]):=by kernel_rfl
theorem Qd:aq Tryz.prog 39=2:=by kernel_rfl
theorem Rx:aq Tryz.prog 40=2:=by kernel_rfl
theorem Qo:bM Tryz.prog 39=true:=by kernel_rfl
theorem ST:bM Tryz.prog 40=true:=by kernel_rfl
theorem QQ:bt Tryz.prog 43=(4,1):=by kernel_rfl
theorem TM:bM Tryz.prog 4=false:=by kernel_rfl
theorem Ty:aq Tryz.prog 4=1:=by kernel_rfl
theorem Ui:Ab Tryz.prog 4=R7.bool:=by kernel_rfl
theorem Qs:cy Tryz.prog 55=some ([(0,1),(1,1)],[Value.int IntKind.i64 0,Value.int IntKind.i64 0]):=by kernel_rfl
theorem RH:cy Tryz.prog 56=some ([(0,2),(2,2),(4,2)],[Value.int IntKind.i64 0,Value.int IntKind.i64 0,Value.int IntKind.i64 0,Value.int IntKind.i64 0,Value.int IntKind.i64 0,Value.int IntKind.i64 0]):=by kernel_rfl
theorem Qu:bW Tryz.prog 56=some (Value.agg #[Value.int IntKind.i64 0,Value.int IntKind.i64 0,Value.int IntKind.i64 0,Value.int IntKind.i64 0,Value.int IntKind.i64 0,Value.int IntKind.i64 0]):=by kernel_rfl
theorem Rv:aq Tryz.prog 56=6:=by kernel_rfl
theorem QZ:g8 Tryz.prog 56=(3,2):=by kernel_rfl
theorem QC:g8 Tryz.prog 55=(2,1):=by kernel_rfl
theorem T3:bM Tryz.prog 3=false:=by kernel_rfl
theorem TL:aq Tryz.prog 3=1:=by kernel_rfl
theorem Pu:dn Tryz.prog 87=some (3,1,8):=by kernel_rfl
theorem QX:cy Tryz.prog 61=some ([(0,1),(1,2),(3,2),(5,1),(6,1)],[Value.int IntKind.i64 0,Value.int IntKind.i64 0,Value.int IntKind.i64 0,Value.int IntKind.i64 0,Value.int IntKind.i64 0,Value.int IntKind.i64 0,Value.int IntKind.i64 0]):=by kernel_rfl
theorem Rj:dn Tryz.prog 33=some (61,7,56):=by kernel_rfl
theorem Rd:dn Tryz.prog 36=some (93,6,112):=by kernel_rfl
theorem Sy:AK 36=false:=by kernel_rfl
theorem PZ:cy Tryz.prog 63=some ([(0,1),(1,1),(2,1)],[Value.int IntKind.i64 0,Value.int IntKind.i64 0,Value.int IntKind.i64 0]):=by kernel_rfl
theorem P0:dn Tryz.prog 64=some (63,3,24):=by kernel_rfl
theorem Ps:dn Tryz.prog 37=some (64,1,24):=by kernel_rfl
theorem Qn:cy Tryz.prog 39=some ([(0,1),(1,1)],[Value.slice none 0 0,Value.slice none 0 0]):=by kernel_rfl
theorem Qr:cy Tryz.prog 32=some ([(0,1),(1,1),(2,1),(3,1),(4,1),(5,1),(6,1),(7,1),(8,1),(9,1)],[Value.slice none 0 0,Value.slice none 0 0,Value.slice none 0 0,Value.slice none 0 0,Value.slice none 0 0,Value.slice none 0 0,Value.slice none 0 0,Value.slice none 0 0,Value.slice none 0 0,Value.slice none 0 0]):=by kernel_rfl
theorem SG:dn Tryz.prog 23=some (2,1,8):=by kernel_rfl
theorem IQ:bO Tryz.prog 32 6=some 6:=by kernel_rfl
theorem Qt:bM Tryz.prog 27=false:=by kernel_rfl
theorem PU:aq Tryz.prog 27=1:=by kernel_rfl
theorem Ro:bt Tryz.prog 27=(67,3):=by kernel_rfl
theorem Ky:bO Tryz.prog 67 2=some 2:=by kernel_rfl
theorem Pw:bM Tryz.prog 33=false:=by kernel_rfl
theorem SW:aq Tryz.prog 33=1:=by kernel_rfl
theorem JC:bO Tryz.prog 32 7=some 7:=by kernel_rfl
theorem PG:bM Tryz.prog 28=false:=by kernel_rfl
theorem Se:aq Tryz.prog 28=1:=by kernel_rfl
theorem PC:bt Tryz.prog 28=(69,5):=by kernel_rfl
theorem Kk:bO Tryz.prog 69 3=some 3:=by kernel_rfl
theorem Rp:bt Tryz.prog 23=(2,1):=by kernel_rfl
theorem SY:cy Tryz.prog 40=some ([(0,1),(1,1)],[Value.slice none 0 0,Value.slice none 0 0]):=by kernel_rfl
theorem Lo:bO Tryz.prog 40 0=some 0:=by kernel_rfl
theorem Qm:bM Tryz.prog 36=false:=by kernel_rfl
theorem SX:aq Tryz.prog 36=1:=by kernel_rfl
theorem HK:bO Tryz.prog 40 1=some 1:=by kernel_rfl
theorem PF:bM Tryz.prog 37=false:=by kernel_rfl
theorem Sz:aq Tryz.prog 37=1:=by kernel_rfl
theorem HG:bO Tryz.prog 39 0=some 0:=by kernel_rfl
theorem QJ:bt Tryz.prog 36=(93,6):=by kernel_rfl
theorem I8:bO Tryz.prog 39 1=some 1:=by kernel_rfl
theorem Sj:bt Tryz.prog 37=(64,1):=by kernel_rfl
theorem SQ:cy Tryz.prog 82=some ([(0,1),(1,1)],[Value.slice none 0 0,Value.slice none 0 0]):=by kernel_rfl
theorem Qi:bt Tryz.prog 74=(84,10):=by kernel_rfl
theorem SU:bM Tryz.prog 84=true:=by kernel_rfl
theorem Sb:aq Tryz.prog 84=10:=by kernel_rfl
theorem QW:bW Tryz.prog 84=some (Value.agg #[Value.int IntKind.i64 0,Value.int IntKind.i64 0,Value.int IntKind.i64 0,Value.int IntKind.i64 0,Value.int IntKind.i64 0,Value.int IntKind.i64 0,Value.int IntKind.i64 0,Value.int IntKind.i64 0,Value.int IntKind.i64 0,Value.int IntKind.i64 0]):=by kernel_rfl
theorem J0:bO Tryz.prog 84 0=some 0:=by kernel_rfl
theorem Hk:bO Tryz.prog 82 1=some 1:=by kernel_rfl
theorem PD:bM Tryz.prog 80=false:=by kernel_rfl
theorem QE:aq Tryz.prog 80=1:=by kernel_rfl
theorem Iw:bO Tryz.prog 84 3=some 3:=by kernel_rfl
theorem Qx:bM Tryz.prog 61=true:=by kernel_rfl
theorem S9:aq Tryz.prog 61=7:=by kernel_rfl
theorem RD:dn Tryz.prog 80=some (43,1,24):=by kernel_rfl
theorem Qg:bt Tryz.prog 80=(43,1):=by kernel_rfl
theorem Qc:bM Tryz.prog 43=false:=by kernel_rfl
theorem S3:aq Tryz.prog 43=1:=by kernel_rfl
theorem Rb:bM Tryz.prog 64=false:=by kernel_rfl
theorem Td:aq Tryz.prog 64=1:=by kernel_rfl
theorem PN:bt Tryz.prog 64=(63,3):=by kernel_rfl
theorem It:bO Tryz.prog 63 2=some 2:=by kernel_rfl
theorem RA:dn Tryz.prog 78=some (87,1,24):=by kernel_rfl
theorem Qa:bM Tryz.prog 93=true:=by kernel_rfl
theorem SM:aq Tryz.prog 93=6:=by kernel_rfl
theorem R5:dn Tryz.prog 43=some (4,1,1):=by kernel_rfl
theorem Qk:bt Tryz.prog 53=(101,9):=by kernel_rfl
theorem Il:bO Tryz.prog 61 0=some 0:=by kernel_rfl
theorem Mv:cy Tryz.prog 101=some ([(0,1),(1,2),(3,2),(5,1),(6,1),(7,2)],[Value.int IntKind.i64 0,Value.string ByteArray.empty,Value.int IntKind.i64 0,Value.string ByteArray.empty,Value.int IntKind.i64 0,Value.string ByteArray.empty,Value.string ByteArray.empty,Value.int IntKind.i64 0,Value.int IntKind.i64 0]):=by kernel_rfl
theorem SE:dn Tryz.prog 53=some (101,9,104):=by kernel_rfl
theorem Si:bt Tryz.prog 87=(3,1):=by kernel_rfl
theorem PE:Ab Tryz.prog 87=R7.slice:=by kernel_rfl
theorem IY:bO Tryz.prog 61 1=some 1:=by kernel_rfl
theorem Jb:bO Tryz.prog 59 0=some 0:=by kernel_rfl
theorem Jd:bO Tryz.prog 59 1=some 1:=by kernel_rfl
theorem TD:bM Tryz.prog 2=false:=by kernel_rfl
theorem Ux:aq Tryz.prog 2=1:=by kernel_rfl
theorem Ls:bO Tryz.prog 61 2=some 3:=by kernel_rfl
theorem TK:Ab Tryz.prog 2=R7.int:=by kernel_rfl
theorem LF:bO Tryz.prog 32 4=some 4:=by kernel_rfl
theorem SL:bM Tryz.prog 25=false:=by kernel_rfl
theorem QD:aq Tryz.prog 25=1:=by kernel_rfl
theorem Rl:bt Tryz.prog 25=(141,2):=by kernel_rfl
theorem IX:bO Tryz.prog 32 5=some 5:=by kernel_rfl
theorem Sd:bM Tryz.prog 26=false:=by kernel_rfl
theorem S2:aq Tryz.prog 26=1:=by kernel_rfl
theorem P7:bt Tryz.prog 26=(103,5):=by kernel_rfl
theorem Jh:bO Tryz.prog 32 0=some 0:=by kernel_rfl
theorem Rk:bM Tryz.prog 22=false:=by kernel_rfl
theorem P2:aq Tryz.prog 22=1:=by kernel_rfl
theorem Q6:bt Tryz.prog 22=(9,1):=by kernel_rfl
theorem Iq:bO Tryz.prog 32 2=some 2:=by kernel_rfl
theorem Iz:bO Tryz.prog 32 3=some 3:=by kernel_rfl
theorem Rc:bM Tryz.prog 24=false:=by kernel_rfl
theorem Q8:aq Tryz.prog 24=1:=by kernel_rfl
theorem QM:bt Tryz.prog 24=(139,2):=by kernel_rfl
theorem IE:bO Tryz.prog 32 8=some 8:=by kernel_rfl
theorem QN:bM Tryz.prog 29=false:=by kernel_rfl
theorem PL:aq Tryz.prog 29=1:=by kernel_rfl
theorem Ri:bt Tryz.prog 29=(146,2):=by kernel_rfl
theorem Ll:bO Tryz.prog 32 9=some 9:=by kernel_rfl
theorem SV:bM Tryz.prog 30=false:=by kernel_rfl
theorem Rf:aq Tryz.prog 30=1:=by kernel_rfl
theorem Q2:bt Tryz.prog 30=(151,2):=by kernel_rfl
theorem LU:bO Tryz.prog 32 1=some 1:=by kernel_rfl
theorem QT:bM Tryz.prog 23=false:=by kernel_rfl
theorem RM:aq Tryz.prog 23=1:=by kernel_rfl
theorem GI:bO Tryz.prog 103 3=some 3:=by kernel_rfl
theorem SO:bM Tryz.prog 87=false:=by kernel_rfl
theorem Sa:aq Tryz.prog 87=1:=by kernel_rfl
theorem Ot:bt Tryz.prog 111=(115,8):=by kernel_rfl
theorem F4:bO Tryz.prog 115 2=some 2:=by kernel_rfl
theorem EC:bO Tryz.prog 115 0=some 0:=by kernel_rfl
theorem Gv:bO Tryz.prog 115 1=some 1:=by kernel_rfl
theorem P9:bW Tryz.prog 61=some (Value.agg #[Value.int IntKind.i64 0,Value.int IntKind.i64 0,Value.int IntKind.i64 0,Value.int IntKind.i64 0,Value.int IntKind.i64 0,Value.int IntKind.i64 0,Value.int IntKind.i64 0]):=by kernel_rfl
theorem Md:cy Tryz.prog 119=some ([(0,1),(1,1),(2,1)],[Value.slice none 0 0,Value.map none,Value.slice none 0 0]):=by kernel_rfl
theorem F3:bO Tryz.prog 119 2=some 2:=by kernel_rfl
theorem EK:bO Tryz.prog 119 0=some 0:=by kernel_rfl
theorem SZ:bM Tryz.prog 74=false:=by kernel_rfl
theorem PJ:aq Tryz.prog 74=1:=by kernel_rfl
theorem QF:bM Tryz.prog 63=true:=by kernel_rfl
theorem Te:aq Tryz.prog 63=3:=by kernel_rfl
theorem QR:bW Tryz.prog 63=some (Value.agg #[Value.int IntKind.i64 0,Value.int IntKind.i64 0,Value.int IntKind.i64 0]):=by kernel_rfl
theorem Sr:bW Tryz.prog 93=some (Value.agg #[Value.slice none 0 0,Value.slice none 0 0,Value.int IntKind.i64 0,Value.int IntKind.i64 0,Value.slice none 0 0,Value.slice none 0 0]):=by kernel_rfl
theorem J5:bO Tryz.prog 84 1=some 1:=by kernel_rfl
theorem Hl:bO Tryz.prog 84 2=some 2:=by kernel_rfl
theorem K4:bO Tryz.prog 82 0=some 0:=by kernel_rfl
theorem SN:bM Tryz.prog 78=false:=by kernel_rfl
theorem RG:aq Tryz.prog 78=1:=by kernel_rfl
theorem KR:bO Tryz.prog 93 0=some 0:=by kernel_rfl
theorem RJ:bM Tryz.prog 91=true:=by kernel_rfl
theorem Q5:aq Tryz.prog 91=2:=by kernel_rfl
theorem Mq:cy Tryz.prog 132=some ([(0,1),(1,1),(2,1),(3,1),(4,1)],[Value.slice none 0 0,Value.int IntKind.i64 0,Value.int IntKind.i64 0,Value.slice none 0 0,Value.slice none 0 0]):=by kernel_rfl
theorem Ra:bt Tryz.prog 78=(87,1):=by kernel_rfl
theorem FE:bO Tryz.prog 101 0=some 0:=by kernel_rfl
theorem GE:bO Tryz.prog 139 1=some 1:=by kernel_rfl
theorem EG:bO Tryz.prog 141 1=some 1:=by kernel_rfl
theorem NY:bM Tryz.prog 103=true:=by kernel_rfl
theorem Ox:aq Tryz.prog 103=5:=by kernel_rfl
theorem MR:bW Tryz.prog 103=some (Value.agg #[Value.string ByteArray.empty,Value.int IntKind.i64 0,Value.int IntKind.i64 0,Value.slice none 0 0,Value.int IntKind.i64 0]):=by kernel_rfl
theorem Gq:bO Tryz.prog 103 1=some 1:=by kernel_rfl
theorem GV:bO Tryz.prog 103 2=some 2:=by kernel_rfl
theorem S8:bM Tryz.prog 67=true:=by kernel_rfl
theorem RW:aq Tryz.prog 67=3:=by kernel_rfl
theorem SP:bW Tryz.prog 67=some (Value.agg #[Value.int IntKind.i64 0,Value.int IntKind.i64 0,Value.slice none 0 0]):=by kernel_rfl
theorem Kf:bO Tryz.prog 67 0=some 0:=by kernel_rfl
theorem I6:bO Tryz.prog 67 1=some 1:=by kernel_rfl
theorem PH:bM Tryz.prog 69=true:=by kernel_rfl
theorem P6:aq Tryz.prog 69=5:=by kernel_rfl
theorem Qw:bW Tryz.prog 69=some (Value.agg #[Value.string ByteArray.empty,Value.int IntKind.i64 0,Value.int IntKind.i64 0,Value.slice none 0 0,Value.bool false]):=by kernel_rfl
theorem Ld:bO Tryz.prog 69 1=some 1:=by kernel_rfl
theorem K5:bO Tryz.prog 69 2=some 2:=by kernel_rfl
theorem ET:bO Tryz.prog 146 0=some 0:=by kernel_rfl
theorem G0:bO Tryz.prog 146 1=some 1:=by kernel_rfl
theorem Gs:bO Tryz.prog 103 4=some 4:=by kernel_rfl
theorem PO:AK 43=false:=by kernel_rfl
theorem RY:dn Tryz.prog 30=some (151,2,16):=by kernel_rfl
theorem NT:bM Tryz.prog 151=true:=by kernel_rfl
theorem Mx:aq Tryz.prog 151=2:=by kernel_rfl
theorem M0:bW Tryz.prog 132=some (Value.agg #[Value.slice none 0 0,Value.int IntKind.i64 0,Value.int IntKind.i64 0,Value.slice none 0 0,Value.slice none 0 0]):=by kernel_rfl
theorem N8:aq Tryz.prog 132=5:=by kernel_rfl
theorem KO:bO Tryz.prog 93 4=some 5:=by kernel_rfl
theorem MN:bM Tryz.prog 132=true:=by kernel_rfl
theorem NH:bt Tryz.prog 156=(91,2):=by kernel_rfl
theorem MH:cy Tryz.prog 115=some ([(0,1),(1,1),(2,6)],[Value.int IntKind.i64 0,Value.int IntKind.i64 0,Value.slice none 0 0,Value.slice none 0 0,Value.int IntKind.i64 0,Value.int IntKind.i64 0,Value.slice none 0 0,Value.slice none 0 0]):=by kernel_rfl
theorem Mt:bW Tryz.prog 115=some (Value.agg #[Value.int IntKind.i64 0,Value.int IntKind.i64 0,Value.slice none 0 0,Value.slice none 0 0,Value.int IntKind.i64 0,Value.int IntKind.i64 0,Value.slice none 0 0,Value.slice none 0 0]):=by kernel_rfl
theorem Ng:aq Tryz.prog 115=8:=by kernel_rfl
theorem OZ:bM Tryz.prog 115=true:=by kernel_rfl
theorem Mb:dn Tryz.prog 111=some (115,8,128):=by kernel_rfl
theorem Qh:cy Tryz.prog 84=some ([(0,1),(1,1),(2,1),(3,7)],[Value.int IntKind.i64 0,Value.int IntKind.i64 0,Value.int IntKind.i64 0,Value.int IntKind.i64 0,Value.int IntKind.i64 0,Value.int IntKind.i64 0,Value.int IntKind.i64 0,Value.int IntKind.i64 0,Value.int IntKind.i64 0,Value.int IntKind.i64 0]):=by kernel_rfl
theorem OL:bW Tryz.prog 176=some (Value.agg #[Value.slice none 0 0]):=by kernel_rfl
theorem P5:AK 87=false:=by kernel_rfl
theorem QA:bM Tryz.prog 59=true:=by kernel_rfl
theorem PS:aq Tryz.prog 59=2:=by kernel_rfl
theorem Q4:cy Tryz.prog 59=some ([(0,1),(1,1)],[Value.int IntKind.i64 0,Value.int IntKind.i64 0]):=by kernel_rfl
theorem Gx:bO Tryz.prog 132 1=some 1:=by kernel_rfl
theorem HN:bO Tryz.prog 61 3=some 5:=by kernel_rfl
theorem GY:bO Tryz.prog 132 2=some 2:=by kernel_rfl
theorem Ki:bO Tryz.prog 61 4=some 6:=by kernel_rfl
theorem Kj:bO Tryz.prog 93 1=some 2:=by kernel_rfl
theorem HD:bO Tryz.prog 93 2=some 3:=by kernel_rfl
theorem HT:bO Tryz.prog 93 3=some 4:=by kernel_rfl
theorem My:bW Tryz.prog 151=some (Value.agg #[Value.bool false,Value.int IntKind.i64 0]):=by kernel_rfl
theorem Ol:cy Tryz.prog 151=some ([(0,1),(1,1)],[Value.bool false,Value.int IntKind.i64 0]):=by kernel_rfl
theorem Gy:bO Tryz.prog 132 0=some 0:=by kernel_rfl
theorem FG:bO Tryz.prog 132 4=some 4:=by kernel_rfl
theorem EV:bO Tryz.prog 132 3=some 3:=by kernel_rfl
theorem Q1:cy Tryz.prog 93=some ([(0,2),(2,1),(3,1),(4,1),(5,1)],[Value.slice none 0 0,Value.slice none 0 0,Value.int IntKind.i64 0,Value.int IntKind.i64 0,Value.slice none 0 0,Value.slice none 0 0]):=by kernel_rfl
theorem SR:AK 23=false:=by kernel_rfl
theorem M2:dn Tryz.prog 156=some (91,2,48):=by kernel_rfl
theorem SF:bW Tryz.prog 32=some (Value.agg #[Value.slice none 0 0,Value.slice none 0 0,Value.slice none 0 0,Value.slice none 0 0,Value.slice none 0 0,Value.slice none 0 0,Value.slice none 0 0,Value.slice none 0 0,Value.slice none 0 0,Value.slice none 0 0]):=by kernel_rfl
theorem GF:bO Tryz.prog 119 1=some 1:=by kernel_rfl
theorem NW:bM Tryz.prog 117=false:=by kernel_rfl
theorem MJ:aq Tryz.prog 117=1:=by kernel_rfl
theorem NP:qD Tryz.prog 117=some (84,3):=by kernel_rfl
theorem QS:dn Tryz.prog 74=some (84,10,80):=by kernel_rfl
theorem Ff:bO Tryz.prog 176 0=some 0:=by kernel_rfl
theorem KL:bO Tryz.prog 91 0=some 0:=by kernel_rfl
theorem Ql:bM Tryz.prog 89=false:=by kernel_rfl
theorem Rz:aq Tryz.prog 89=1:=by kernel_rfl
theorem SK:bt Tryz.prog 89=(213,2):=by kernel_rfl
theorem Nz:bM Tryz.prog 213=true:=by kernel_rfl
theorem M5:aq Tryz.prog 213=2:=by kernel_rfl
theorem Oj:bW Tryz.prog 213=some (Value.agg #[Value.int IntKind.i64 0,Value.int IntKind.i64 0]):=by kernel_rfl
theorem GT:bO Tryz.prog 213 0=some 0:=by kernel_rfl
theorem FJ:bO Tryz.prog 213 1=some 1:=by kernel_rfl
theorem La:bO Tryz.prog 69 4=some 4:=by kernel_rfl
theorem PP:bW Tryz.prog 91=some (Value.agg #[Value.slice none 0 0,Value.slice none 0 0]):=by kernel_rfl
theorem ND:cy Tryz.prog 213=some ([(0,1),(1,1)],[Value.int IntKind.i64 0,Value.int IntKind.i64 0]):=by kernel_rfl
theorem JG:bO Tryz.prog 91 1=some 1:=by kernel_rfl
theorem Rt:dn Tryz.prog 89=some (213,2,16):=by kernel_rfl
theorem Nx:bt Tryz.prog 222=(55,2):=by kernel_rfl
theorem Rr:cy Tryz.prog 91=some ([(0,1),(1,1)],[Value.slice none 0 0,Value.slice none 0 0]):=by kernel_rfl
theorem RO:dn Tryz.prog 27=some (67,3,40):=by kernel_rfl
theorem Tc:dn Tryz.prog 28=some (69,5,64):=by kernel_rfl
theorem Fi:bO Tryz.prog 151 0=some 0:=by kernel_rfl
theorem EM:bO Tryz.prog 151 1=some 1:=by kernel_rfl
theorem Uu:bW Tryz.prog 4=some (Value.bool false):=by kernel_rfl
theorem Mj:dn Tryz.prog 222=some (55,2,16):=by kernel_rfl
theorem TS:bW Tryz.prog 3=some (Value.int IntKind.i64 0):=by kernel_rfl
theorem Oo:bM Tryz.prog 146=true:=by kernel_rfl
theorem NU:aq Tryz.prog 146=2:=by kernel_rfl
theorem M4:bW Tryz.prog 146=some (Value.agg #[Value.int IntKind.i64 0,Value.int IntKind.i64 0]):=by kernel_rfl
theorem UH:bW Tryz.prog 2=some (Value.int IntKind.i64 0):=by kernel_rfl
end
section
def SC (P:Program) (c:Code) (Q:Exit -> aj -> Prop) (st:aj):Prop:=∀ (cx:Cx) (a:Act) (w:World) (L:Nat -> Value),aJ cx a w st L -> c.wp P (px cx Q) a w
section
variable {P:Program} {x y:Code} {Q Q':Exit -> aj -> Prop} {st st':aj}
theorem mV (hm:P.follows .mixedOrders=true) (h:bB P x Q st):SC P x Q st:=fun cx a w L hc=>oc hm x Q a w st L hc h
theorem SC.mono (h:SC P x Q st) (hq:∀ e st,Q e st -> Q' e st):SC P x Q' st:=fun cx a w L hc=>Code.wp_mono (fun e a w ⟨st',L',h1,h2⟩=>⟨st',L',hq e st' h1,h2⟩) (h cx a w L hc)
theorem SC.weak (hw:dC st st') (h:SC P x Q st'):SC P x Q st:=fun cx a w L hc=>(hw cx a w L hc).elim fun L' hc'=>h cx a w L' hc'.1
theorem QB (h:SC P x (lO (SC P y Q) Q) st):SC P (.seq x y) Q st:=fun cx a w L hc=>
 wp_seq (Code.wp_mono (fun e a' w' ⟨st',L',h1,h2⟩=>by
  cases e with
  | normal=>exact h1 cx a' w' L' h2
  | _=>exact ⟨st',L',h1,h2⟩) (h cx a w L hc))
theorem fF {I:aj -> Prop} (hw:dC st st') (h:I st'):L5 I st:=⟨st',hw,h⟩
theorem kB (I:aj -> Prop) (h:SC P x (lO (L5 I) Q) st) (h2:∀ st,I st -> SC P y Q st):SC P (.seq x y) Q st:=
 QB (h.mono fun e st h=>by
  cases e with
  | normal=>
   obtain ⟨st',hw,hI⟩:=h;exact (h2 st' hI).weak hw
  | _=>exact h)
end
theorem Bu {P : Program} {f : FuncId} {fn : Func} {c : Code} (hf : P.funcs[f]? = some fn) (hb : fn.body = some c) (hname : (fn.name == "runtime.NumGoroutine") = false) {args : List AV} {R : cM} {n : Nat} (hnt : fn.ntmps = n) {rs : List ResultVar} (hrs : fn.results = rs.toArray) (hn : Nat.ble args.length n = true)
  (hok:R.Ok) (h:SC P c (HH P rs R) ⟨n,dh 0 args,[],0⟩):aw P f args R:=r8 hf hb hname hnt hrs hn hok h
theorem fM {P:Program} {f:FuncId} {args:List AV} {v:Value} (he:fE P f)
  (h:∀ (S:Nat -> Prop) (w:World) (vs:Array Value),Es w S -> vs.size=args.length -> (∀ (j:Nat) (v:Value) (av:AV),vs[j]? = some v -> args[j]? = some av -> RT w S v av) -> Calls P f vs w fun e w'=>e=.returned v /\ Below w.heap.size w w'):aw P f args (val v):=
 ⟨he,fun S w vs h1 h2 h3=>(h S w vs h1 h2 h3).mono fun e w' ⟨h4,h5⟩=>⟨v,fun _=>undef,val v,rfl,aL v,h4,⟨jQ h5,fun id o h=>(by cases h),fun id id' o o' g h=>(by cases h),fun b hb=>hb.elim⟩,.tree (.c v)⟩⟩
theorem aw.calls {P:Program} {f:FuncId} {args:List AV} {v:Value} (h:aw P f args (val v)) {w:World} {vs:Array Value} (h2:vs.size=args.length) (h3:∀ (j:Nat) (v:Value) (av:AV),vs[j]? = some v -> args[j]? = some av -> RT w (fun b=>b<w.heap.size) v av) (hA:Ef w:=by exact Ms _) :
  Calls P f vs w fun e w'=>e=.returned v /\ Below w.heap.size w w':=
 (h.2 _ w vs ⟨fun b hb=>hb,hA,fun b hb=>Vm hb hA.le⟩ h2 h3).mono fun e w' ⟨v',L,R,h0,_,h4,h5,h6⟩=>by
  subst h0;obtain rfl:=h6.c_inv;exact ⟨h4,h5.below.below fun b hb=>hb⟩
def iZ (e:TypeId) (sz:Nat) (rows:List (List AV)):cM:=⟨.osl 0,[(0,some (.row e sz rows))],1⟩
theorem cT (e:TypeId) (sz:Nat) (rows:List (List AV)):(iZ e sz rows).Ok:=by
 refine ⟨fun id o h=>?_,XI⟩;simp only [iZ,ae.gc] at h;split at h
 .rename_i e;cases h;subst e;exact ⟨XI,trivial⟩
 .cases h
theorem aY {e:TypeId} {sz:Nat} {rows:List (List AV)} {st:aj} {id:Nat}:st.tab.get id=some (.row e sz rows) -> fe (iZ e sz rows) st (.osl id):=fun h=>
 ⟨[id],by simp,rfl,⟨XI,⟨e,sz,rows,rfl⟩,h⟩,trivial⟩
theorem cI {Post:cM -> Prop} {st:aj} {v:Value} (h:Post (val v)):∃ R,Post R /\ R.Ok /\ fe R st (.c v):=⟨_,h,aL v,vL rfl⟩
theorem yf {Post:cM -> Prop} {st:aj} {id:Nat} {e:TypeId} {sz:Nat} {rows:List (List AV)} (hg:st.tab.get id=some (.row e sz rows)) (h:Post (iZ e sz rows)):∃ R,Post R /\ R.Ok /\ fe R st (.osl id):=⟨_,h,cT ..,aY hg⟩
theorem tw {u:Option (Nat × List Nat)} {P:Program} {st:aj} {g:FuncId} {args:List AV} {K:AV -> aj -> Prop} {Post:cM -> Prop} (h:dt P g (args.map (gt st.tab)) Post) (hk:∀ R,Post R -> (dJ args \/ (R.r.plain /\ R.tab.plain)) /\ K (R.r.shift st.next) { st with tab:=R.tab.shift st.next ++ st.tab,next:=st.next+R.n }):gy u P st g args K:=.inl (.inl ⟨Post,h,hk⟩)
theorem sG {u:Option (Nat × List Nat)} {P:Program} {st:aj} {g:FuncId} {args:List AV} {K:AV -> aj -> Prop} {R:cM} (h:aw P g (args.map (gt st.tab)) R) (ho:dJ args \/ (R.r.plain /\ R.tab.plain)) (hk:K (R.r.shift st.next) { st with tab:=R.tab.shift st.next ++ st.tab,next:=st.next+R.n }):gy u P st g args K:=
 .inl (.inl ⟨_,h,fun R' e=>by subst e;exact ⟨ho,hk⟩⟩)
theorem ay {u:Option (Nat × List Nat)} {P:Program} {st:aj} {g:FuncId} {args:List AV} {dst:Option Nat} {K:aj -> Prop} {v:Value} (h:aw P g (args.map (gt st.tab)) (val v)) (hk:K (st.put dst (.c v))):gy u P st g args (uL dst K):=
 sG h (.inr ⟨trivial,trivial⟩) hk
def U9:=(And.intro (And.intro (And.intro (And.intro (And.intro (And.intro (And.intro @CJ @C4) (And.intro @Ck @FS0)) (And.intro (And.intro @Dj @yI) (And.intro @BL @Bi))) (And.intro (And.intro (And.intro @GL @vY) (And.intro @Bb @FO)) (And.intro (And.intro @rh @xg) (And.intro @uv @CQ)))) (And.intro (And.intro (And.intro (And.intro @LP @PT) (And.intro @Tv @R6)) (And.intro (And.intro @R4 @OP) (And.intro @NS @KM))) (And.intro (And.intro (And.intro @Fp @ER) (And.intro @GJ @J1)) (And.intro (And.intro @Cg @Bc) (And.intro @E3 (And.intro @yS @AP)))))) (And.intro (And.intro (And.intro (And.intro (And.intro @CA @xV) (And.intro @uh @Sl)) (And.intro (And.intro @S0 @Qj) (And.intro @SH @Kz))) (And.intro (And.intro (And.intro @EO @GX) (And.intro @BH @yE)) (And.intro (And.intro @LV @Cu) (And.intro @JS (And.intro @J2 @Ez))))) (And.intro (And.intro (And.intro (And.intro @GO @N1) (And.intro @Rn @AA)) (And.intro (And.intro @NI @A8) (And.intro @JK @wy))) (And.intro (And.intro (And.intro @Ov @Gi) (And.intro @F8 @sm)) (And.intro (And.intro @uu @Em) (And.intro @EF (And.intro @zU @FT))))))) (And.intro (And.intro (And.intro (And.intro (And.intro (And.intro @Fb @Cb) (And.intro @C2 @Lm)) (And.intro (And.intro @MY @Lr) (And.intro @FV @EW))) (And.intro (And.intro (And.intro @B9 @PM) (And.intro @Oy @F5)) (And.intro (And.intro @yy @Bv) (And.intro @Ad @Gc)))) (And.intro (And.intro (And.intro (And.intro @CV @Cv) (And.intro @FI @yw)) (And.intro (And.intro @wl @vV) (And.intro @x9 @EH))) (And.intro (And.intro (And.intro @xW @A4) (And.intro @AD @Ak)) (And.intro (And.intro @wG @ww) (And.intro @BO (And.intro @Ge @sX)))))) (And.intro (And.intro (And.intro (And.intro (And.intro @zD @Fg) (And.intro @wD @FD)) (And.intro (And.intro @wk @CC) (And.intro @ze @xx))) (And.intro (And.intro (And.intro @Cr @pj) (And.intro @Co @Db)) (And.intro (And.intro @Bx @AX) (And.intro @y9 (And.intro @EQ @JW))))) (And.intro (And.intro (And.intro (And.intro @ue @Gb) (And.intro @GG @AY)) (And.intro (And.intro @vS @qW) (And.intro @Na @M9))) (And.intro (And.intro (And.intro @yX @BF) (And.intro @zS @uy)) (And.intro (And.intro @ws @AW) (And.intro @xH (And.intro @qZ @MO))))))))
def U7:=(And.intro (And.intro (And.intro (And.intro (And.intro @ae.gc (And.intro @WR @XA)) (And.intro (And.intro @WO @WM) (And.intro @WJ @Wm))) (And.intro (And.intro (And.intro @VY @VP) (And.intro @VI @Wt)) (And.intro (And.intro @List.drop_succ_cons.{0} @List.drop_zero.{0}) (And.intro @List.take_succ_cons.{0} @VA)))) (And.intro (And.intro (And.intro (And.intro @List.headD_cons.{0} @Vo) (And.intro @XM @W7)) (And.intro (And.intro @true_and @and_true) (And.intro @VH @Wg))) (And.intro (And.intro (And.intro @WT @Wn) (And.intro @Xv @XJ)) (And.intro (And.intro @AV.c.injEq @Value.bool.injEq) (And.intro @Value.int.injEq @false_implies))))) (And.intro (And.intro (And.intro (And.intro (And.intro @VG @Vx) (And.intro @WZ @Int.ofNat_lt)) (And.intro (And.intro @Int.ofNat_le @WA) (And.intro @not_false_eq_true @not_true_eq_false))) (And.intro (And.intro (And.intro @Os @false_and) (And.intro @and_false @Nat.succ_ne_zero)) (And.intro (And.intro @imp_self @true_implies) (And.intro @decide_true @decide_false)))) (And.intro (And.intro (And.intro (And.intro @WC @W3) (And.intro @Vg @V8)) (And.intro (And.intro @List.not_mem_nil.{0} @or_false) (And.intro @Ww @Wl))) (And.intro (And.intro (And.intro @VX @Option.map_none.{0,0}) (And.intro @Option.isSome_some.{0} @Option.isSome_none.{0})) (And.intro (And.intro @Xn @Vq) (And.intro @true_or @or_true))))))
def jn:=(And.intro (And.intro (And.intro (And.intro @ae.gc @and_true) (And.intro @true_and (And.intro @AV.c.injEq @Value.int.injEq))) (And.intro (And.intro @Value.bool.injEq @XM) (And.intro @W7 (And.intro @Xv @XJ)))) (And.intro (And.intro (And.intro @Nat.succ_ne_zero @not_true_eq_false) (And.intro @not_false_eq_true (And.intro @WZ @VY))) (And.intro (And.intro @VP (And.intro @Wg @WT)) (And.intro @Wn (And.intro @decide_true @decide_false)))))
def t5:=And.intro U9 (And.intro U7 (And.intro (And.intro (And.intro (And.intro (And.intro (And.intro (And.intro (And.intro (And.intro @bj.eq_1 @bj.eq_2) (And.intro @bj.eq_3 @bj.eq_4)) (And.intro (And.intro @oT.eq_1 @j9.eq_1) (And.intro @j9.eq_2 @j9.eq_3))) (And.intro (And.intro (And.intro @nN.eq_1 @i9.eq_1) (And.intro @i9.eq_2 @i9.eq_3)) (And.intro (And.intro @i9.eq_4 @i9.eq_5) (And.intro @sH.eq_1 @sH.eq_2)))) (And.intro (And.intro (And.intro (And.intro @sH.eq_3 @sH.eq_4) (And.intro @sH.eq_5 @xh.eq_1)) (And.intro (And.intro @xh.eq_2 @xh.eq_3) (And.intro @xh.eq_4 @fI.eq_1))) (And.intro (And.intro (And.intro @fI.eq_2 @fI.eq_3) (And.intro @fI.eq_4 @fI.eq_5)) (And.intro (And.intro @fI.eq_6 @fI.eq_7) (And.intro @fI.eq_8 (And.intro @fI.eq_9 @fI.eq_10)))))) (And.intro (And.intro (And.intro (And.intro (And.intro @fI.eq_11 @fI.eq_12) (And.intro @fI.eq_13 @fI.eq_14)) (And.intro (And.intro @fI.eq_15 @fI.eq_16) (And.intro @fI.eq_17 @fI.eq_18))) (And.intro (And.intro (And.intro @fI.eq_19 @fI.eq_20) (And.intro @fI.eq_21 @fI.eq_22)) (And.intro (And.intro @fI.eq_23 @fI.eq_24) (And.intro @fI.eq_25 @fI.eq_26)))) (And.intro (And.intro (And.intro (And.intro @fI.eq_27 @fI.eq_28) (And.intro @S7.eq_1 @S7.eq_2)) (And.intro (And.intro @Pq.eq_1 @Pq.eq_2) (And.intro @Pq.eq_3 @Pq.eq_4))) (And.intro (And.intro (And.intro @Pq.eq_5 @j4.eq_1) (And.intro @j4.eq_2 @aj.get.eq_1)) (And.intro (And.intro @bh.eq_1 @bh.eq_2) (And.intro @aj.put.eq_1 (And.intro @aj.put.eq_2 @pN.eq_1))))))) (And.intro (And.intro (And.intro (And.intro (And.intro (And.intro @pN.eq_2 @Ao.eq_1) (And.intro @kb.eq_1 @ez.eq_1)) (And.intro (And.intro @l5.eq_1 @tz.eq_1) (And.intro @tz.eq_2 @kn.eq_1))) (And.intro (And.intro (And.intro @kn.eq_2 @sn.eq_1) (And.intro @sn.eq_2 @sn.eq_3)) (And.intro (And.intro @DI.eq_1 @DI.eq_2) (And.intro @yv.eq_1 @yv.eq_2)))) (And.intro (And.intro (And.intro (And.intro @ar.eq_1 @ar.eq_2) (And.intro @ar.eq_3 @tJ.eq_1)) (And.intro (And.intro @tJ.eq_2 @tJ.eq_3) (And.intro @tJ.eq_4 @tJ.eq_5))) (And.intro (And.intro (And.intro @tJ.eq_6 @tJ.eq_7) (And.intro @tJ.eq_8 @fa.eq_1)) (And.intro (And.intro @fa.eq_2 @aU.eq_1) (And.intro @aU.eq_2 (And.intro @aU.eq_3 @aU.eq_4)))))) (And.intro (And.intro (And.intro (And.intro (And.intro @aU.eq_5 @aU.eq_6) (And.intro @aU.eq_7 @aM.eq_1)) (And.intro (And.intro @aM.eq_2 @k7.eq_1) (And.intro @k7.eq_2 @OX))) (And.intro (And.intro (And.intro @Ji @zq.eq_1) (And.intro @zq.eq_2 @vZ.eq_1)) (And.intro (And.intro @vZ.eq_2 @vZ.eq_3) (And.intro @yx.eq_1 @yx.eq_2)))) (And.intro (And.intro (And.intro (And.intro @yx.eq_3 @yx.eq_4) (And.intro @bP.eq_1 @bP.eq_2)) (And.intro (And.intro @Go.Value.cells.eq_1 @Go.Value.cells.eq_2) (And.intro @Go.Value.oneCell'.eq_1 @Go.Value.oneCell'.eq_2))) (And.intro (And.intro (And.intro @Go.Value.oneCell'.eq_3 @dh.eq_1) (And.intro @dh.eq_2 @cW.eq_1)) (And.intro (And.intro @cW.eq_2 @cW.eq_3) (And.intro @gD.eq_1 (And.intro @gD.eq_2 @gt.eq_1)))))))) (And.intro (And.intro (And.intro (And.intro (And.intro (And.intro (And.intro @gt.eq_2 @gt.eq_3) (And.intro @gt.eq_4 @gt.eq_5)) (And.intro (And.intro @gt.eq_6 @gt.eq_7) (And.intro @gt.eq_8 @gt.eq_9))) (And.intro (And.intro (And.intro @gt.eq_10 @f8.eq_1) (And.intro @f8.eq_2 @f8.eq_3)) (And.intro (And.intro @f8.eq_4 @f8.eq_5) (And.intro @f8.eq_6 @f8.eq_7)))) (And.intro (And.intro (And.intro (And.intro @f8.eq_8 @f8.eq_9) (And.intro @f8.eq_10 @ij.eq_1)) (And.intro (And.intro @ij.eq_2 @ij.eq_3) (And.intro @ij.eq_4 @ij.eq_5))) (And.intro (And.intro (And.intro @ij.eq_6 @ij.eq_7) (And.intro @ij.eq_8 @ij.eq_9)) (And.intro (And.intro @ij.eq_10 @CF.eq_1) (And.intro @CF.eq_2 (And.intro @nU.eq_1 @tu.eq_1)))))) (And.intro (And.intro (And.intro (And.intro (And.intro @tu.eq_2 @py.eq_1) (And.intro @py.eq_2 @wB.eq_1)) (And.intro (And.intro @wB.eq_2 @zR.eq_1) (And.intro @zR.eq_2 @zR.eq_3))) (And.intro (And.intro (And.intro @x8.eq_1 @x8.eq_2) (And.intro @i8.eq_1 @i8.eq_2)) (And.intro (And.intro @gu.eq_1 @Tm.eq_1) (And.intro @Tm.eq_2 @lC.eq_1)))) (And.intro (And.intro (And.intro (And.intro @lC.eq_2 @lC.eq_3) (And.intro @qt.eq_1 @qt.eq_2)) (And.intro (And.intro @qJ.eq_1 @qJ.eq_2) (And.intro @oV.eq_1 @oV.eq_2))) (And.intro (And.intro (And.intro @oV.eq_3 @oV.eq_4) (And.intro @oV.eq_5 @nG.eq_1)) (And.intro (And.intro @nG.eq_2 @nG.eq_3) (And.intro @nG.eq_4 (And.intro @fL.eq_1 @fL.eq_2))))))) (And.intro (And.intro (And.intro (And.intro (And.intro (And.intro @ia.eq_1 @gN.eq_1) (And.intro @gN.eq_2 @gN.eq_3)) (And.intro (And.intro @AV.frz.eq_1 @AV.frz.eq_2) (And.intro @AV.frz.eq_3 @AV.frz.eq_4))) (And.intro (And.intro (And.intro @AV.frz.eq_5 @AV.frz.eq_6) (And.intro @AV.frz.eq_7 @AV.frz.eq_8)) (And.intro (And.intro @AV.frz.eq_9 @AV.frz.eq_10) (And.intro @AV.frzL.eq_1 @AV.frzL.eq_2)))) (And.intro (And.intro (And.intro (And.intro @gl.eq_1 @gl.eq_2) (And.intro @AV.shift.eq_1 @AV.shift.eq_2)) (And.intro (And.intro @AV.shift.eq_3 @AV.shift.eq_4) (And.intro @AV.shift.eq_5 @AV.shift.eq_6))) (And.intro (And.intro (And.intro @AV.shift.eq_7 @AV.shift.eq_8) (And.intro @AV.shift.eq_9 @AV.shift.eq_10)) (And.intro (And.intro @AV.shiftL.eq_1 @AV.shiftL.eq_2) (And.intro @rA.eq_1 (And.intro @jx.eq_1 @jx.eq_2)))))) (And.intro (And.intro (And.intro (And.intro (And.intro @oe.eq_1 @oe.eq_2) (And.intro @lD.eq_1 @lD.eq_2)) (And.intro (And.intro @lD.eq_3 @ru.eq_1) (And.intro @ru.eq_2 @rG.eq_1))) (And.intro (And.intro (And.intro @rG.eq_2 @Hd.eq_1) (And.intro @Hd.eq_2 @Hd.eq_3)) (And.intro (And.intro @Gh.eq_1 @Gh.eq_2) (And.intro @Gh.eq_3 (And.intro @iw.eq_1 @iw.eq_2))))) (And.intro (And.intro (And.intro (And.intro @uK.eq_1 @b9.eq_1) (And.intro @b9.eq_2 @aE.frz.eq_1)) (And.intro (And.intro @aE.frz.eq_2 @aE.frz.eq_3) (And.intro @aE.frz.eq_4 @aE.frz.eq_5))) (And.intro (And.intro (And.intro @Pi.eq_1 @Pi.eq_2) (And.intro @yO.eq_1 @yO.eq_2)) (And.intro (And.intro @yO.eq_3 @fO.eq_1) (And.intro @AI.eq_1 (And.intro @AI.eq_2 @AI.eq_3))))))))) (And.intro (And.intro (And.intro (And.intro (And.intro (And.intro (And.intro (And.intro @vf.eq_1 @vf.eq_2) (And.intro @tW.eq_1 @tW.eq_2)) (And.intro (And.intro @k8.eq_1 @k8.eq_2) (And.intro @ld.eq_1 @ld.eq_2))) (And.intro (And.intro (And.intro @rE.eq_1 @rE.eq_2) (And.intro @xY.eq_1 @xY.eq_2)) (And.intro (And.intro @xY.eq_3 @lH.eq_1) (And.intro @lH.eq_2 @false_or)))) (And.intro (And.intro (And.intro (And.intro @C0.eq_1 @C0.eq_2) (And.intro @Lj.eq_def @qH.eq_def)) (And.intro (And.intro @BZ.eq_def @eq_self.{1}) (And.intro @ne_eq.{1} @implies_true.{1}))) (And.intro (And.intro (And.intro @implies_true.{0} @forall_const.{1}) (And.intro @forall_const.{0} @Sh)) (And.intro (And.intro @T9 @Rs) (And.intro @Sk (And.intro @Ti @PQ)))))) (And.intro (And.intro (And.intro (And.intro (And.intro @Qd @Rx) (And.intro @Qo @ST)) (And.intro (And.intro @QQ @TM) (And.intro @Ty @Ui))) (And.intro (And.intro (And.intro @Qs @RH) (And.intro @Qu @Rv)) (And.intro (And.intro @QZ @QC) (And.intro @T3 @TL)))) (And.intro (And.intro (And.intro (And.intro @Pu @QX) (And.intro @Rj @Rd)) (And.intro (And.intro @Sy @PZ) (And.intro @P0 @Ps))) (And.intro (And.intro (And.intro @Qn @Qr) (And.intro @SG @IQ)) (And.intro (And.intro @Qt @PU) (And.intro @Ro (And.intro @Ky @Pw))))))) (And.intro (And.intro (And.intro (And.intro (And.intro (And.intro @SW @JC) (And.intro @PG @Se)) (And.intro (And.intro @PC @Kk) (And.intro @Rp @SY))) (And.intro (And.intro (And.intro @Lo @Qm) (And.intro @SX @HK)) (And.intro (And.intro @PF @Sz) (And.intro @HG @QJ)))) (And.intro (And.intro (And.intro (And.intro @I8 @Sj) (And.intro @SQ @Qi)) (And.intro (And.intro @SU @Sb) (And.intro @QW @J0))) (And.intro (And.intro (And.intro @Hk @PD) (And.intro @QE @Iw)) (And.intro (And.intro @Qx @S9) (And.intro @RD (And.intro @Qg @Qc)))))) (And.intro (And.intro (And.intro (And.intro (And.intro @S3 @Rb) (And.intro @Td @PN)) (And.intro (And.intro @It @RA) (And.intro @Qa @SM))) (And.intro (And.intro (And.intro @R5 @Qk) (And.intro @Il @Mv)) (And.intro (And.intro @SE @Si) (And.intro @PE (And.intro @IY @Jb))))) (And.intro (And.intro (And.intro (And.intro @Jd @TD) (And.intro @Ux @Ls)) (And.intro (And.intro @TK @LF) (And.intro @SL @QD))) (And.intro (And.intro (And.intro @Rl @IX) (And.intro @Sd @S2)) (And.intro (And.intro @P7 @Jh) (And.intro @Rk (And.intro @P2 @Q6)))))))) (And.intro (And.intro (And.intro (And.intro (And.intro (And.intro (And.intro @Iq @Iz) (And.intro @Rc @Q8)) (And.intro (And.intro @QM @IE) (And.intro @QN @PL))) (And.intro (And.intro (And.intro @Ri @Ll) (And.intro @SV @Rf)) (And.intro (And.intro @Q2 @LU) (And.intro @QT @RM)))) (And.intro (And.intro (And.intro (And.intro @GI @SO) (And.intro @Sa @Ot)) (And.intro (And.intro @F4 @EC) (And.intro @Gv @P9))) (And.intro (And.intro (And.intro @Md @F3) (And.intro @EK @SZ)) (And.intro (And.intro @PJ @QF) (And.intro @Te (And.intro @QR @Sr)))))) (And.intro (And.intro (And.intro (And.intro (And.intro @J5 @Hl) (And.intro @K4 @SN)) (And.intro (And.intro @RG @KR) (And.intro @RJ @Q5))) (And.intro (And.intro (And.intro @Mq @Ra) (And.intro @FE @GE)) (And.intro (And.intro @EG @NY) (And.intro @Ox @MR)))) (And.intro (And.intro (And.intro (And.intro @Gq @GV) (And.intro @S8 @RW)) (And.intro (And.intro @SP @Kf) (And.intro @I6 @PH))) (And.intro (And.intro (And.intro @P6 @Qw) (And.intro @Ld @K5)) (And.intro (And.intro @ET @G0) (And.intro @Gs (And.intro @PO @RY))))))) (And.intro (And.intro (And.intro (And.intro (And.intro (And.intro @NT @Mx) (And.intro @M0 @N8)) (And.intro (And.intro @KO @MN) (And.intro @NH @MH))) (And.intro (And.intro (And.intro @Mt @Ng) (And.intro @OZ @Mb)) (And.intro (And.intro @Qh @OL) (And.intro @P5 @QA)))) (And.intro (And.intro (And.intro (And.intro @PS @Q4) (And.intro @Gx @HN)) (And.intro (And.intro @GY @Ki) (And.intro @Kj @HD))) (And.intro (And.intro (And.intro @HT @My) (And.intro @Ol @Gy)) (And.intro (And.intro @FG @EV) (And.intro @Q1 (And.intro @SR @M2)))))) (And.intro (And.intro (And.intro (And.intro (And.intro @SF @GF) (And.intro @NW @MJ)) (And.intro (And.intro @NP @QS) (And.intro @Ff @KL))) (And.intro (And.intro (And.intro @Ql @Rz) (And.intro @SK @Nz)) (And.intro (And.intro @M5 @Oj) (And.intro @GT (And.intro @FJ @La))))) (And.intro (And.intro (And.intro (And.intro @PP @ND) (And.intro @JG @Rt)) (And.intro (And.intro @Nx @Rr) (And.intro @RO @Tc))) (And.intro (And.intro (And.intro @Fi @EM) (And.intro @Uu @Mj)) (And.intro (And.intro @TS @Oo) (And.intro @NU (And.intro @M4 @UH)))))))))))
theorem kf {a b:Prop} (x:a) (y:b):a /\ b:=⟨x,y⟩
theorem go {a b:Prop} (hb:b) (h:a=b:=by simp -implicitDefEqProofs (maxSteps:=5000000) only [t5,↓reduceIte,reduceCtorEq,Nat.reduceLT,Nat.reduceEqDiff,Nat.reduceAdd,Nat.reduceMul,Nat.reduceSub,Nat.reduceLeDiff,Nat.reduceBEq]<;>exact rfl):a:=Eq.mpr h hb
theorem ge {E a b:Prop} (e:E) (hb:b) (h:E -> a=b:=by intro e;simp -implicitDefEqProofs (maxSteps:=5000000) only [t5,↓reduceIte,reduceCtorEq,Nat.reduceLT,Nat.reduceEqDiff,Nat.reduceAdd,Nat.reduceMul,Nat.reduceSub,Nat.reduceLeDiff,Nat.reduceBEq,e]<;>exact rfl):a:=Eq.mpr (h e) hb
theorem gq {a b:Prop} (hb:b) (h:b -> a:=by first|with_reducible exact aA (by kernel_rfl)|exact Eq.mpr (by simp -implicitDefEqProofs (maxSteps:=5000000) only [t5,↓reduceIte,reduceCtorEq,Nat.reduceLT,Nat.reduceEqDiff,Nat.reduceAdd,Nat.reduceMul,Nat.reduceSub,Nat.reduceLeDiff,Nat.reduceBEq]<;>exact rfl)):a:=h hb
theorem gf {E a b:Prop} (e:E) (hb:b) (h:E -> b -> a:=by intro e;first|with_reducible exact aA (by kernel_rfl)|exact Eq.mpr (by simp -implicitDefEqProofs (maxSteps:=5000000) only [t5,↓reduceIte,reduceCtorEq,Nat.reduceLT,Nat.reduceEqDiff,Nat.reduceAdd,Nat.reduceMul,Nat.reduceSub,Nat.reduceLeDiff,Nat.reduceBEq,e]<;>exact rfl)):a:=h e hb
theorem cA {p a b:Prop} (x:a) (y:b) (h:a -> b -> p:=by intro x y;first|((with_reducible apply ay);exact x;exact y)|((with_reducible apply aP);exact x;exact y)|((with_reducible apply cZ);exact x;exact .inl (by simp [dJ,eU,aM,aU]);exact y)):p:=h x y
theorem ro {p q:Prop} (h:p:=by simp [dJ,eU,aM,aU]):p \/ q:=.inl h
theorem sp {p a b:Prop} (ha:a) (hb:b) (h:a -> b -> p:=by with_reducible first|exact ka|exact C3|exact uU):p:=h ha hb
theorem wC {st:aj} {n nx:Nat} {env:List (Nat × AV)} {tab:ae} (h:st.n=n /\ (md st env /\ lV st tab) /\ dD nx env /\ cO nx tab:=by (first|((simp only [md,lV,dD,cO,aE.lt,AV.lt,AV.ltL,jn,aj.get,bh,aj.put,↓reduceIte,reduceCtorEq,Nat.reduceLT,Nat.reduceEqDiff,Nat.reduceAdd,Nat.reduceLeDiff,eq_self,implies_true])<;>(repeat' apply And.intro)<;>first|(rw [n9 (by omega)];done)|(simp;done)|omega)|fail)):dC st ⟨n,env,tab,nx⟩:=j8 h
theorem wE {st:aj} {n nx:Nat} {env:List (Nat × AV)} {tab:ae} {E:Prop} (e:E) (h:E -> st.n=n /\ (md st env /\ lV st tab) /\ dD nx env /\ cO nx tab:=by intro e;(first|((simp only [md,lV,dD,cO,aE.lt,AV.lt,AV.ltL,jn,aj.get,bh,aj.put,↓reduceIte,reduceCtorEq,Nat.reduceLT,Nat.reduceEqDiff,Nat.reduceAdd,Nat.reduceLeDiff,eq_self,implies_true,e])<;>(repeat' apply And.intro)<;>first|(rw [n9 (by omega)];done)|(simp;done)|omega)|fail)):dC st ⟨n,env,tab,nx⟩:=j8 (h e)
theorem wR {st:aj} {n nx:Nat} {env:List (Nat × AV)} {tab:ae} (ids:List Nat) (h0:ids.Nodup:=by decide) (h:st.n=n /\ (jP st ids env /\ i6 st ids tab) /\ dD nx env /\ cO nx tab:=by (first|((simp only [jP,i6,dD,cO,aE.lt,AV.lt,AV.ltL,AV.ren,AV.renL,aE.ren,Xt,List.getD_cons_succ,VI,Wt,jn,aj.get,bh,aj.put,↓reduceIte,reduceCtorEq,Nat.reduceLT,Nat.reduceEqDiff,Nat.reduceAdd,Nat.reduceLeDiff,eq_self,implies_true])<;>(repeat' apply And.intro)<;>first|(rw [n9 (by omega)];done)|(simp;done)|omega)|fail)):dC st ⟨n,env,tab,nx⟩:=mo ids ⟨h0,h⟩
theorem wS {st:aj} {n nx:Nat} {env:List (Nat × AV)} {tab:ae} {E:Prop} (ids:List Nat) (e:E) (h0:ids.Nodup:=by decide) (h:E -> st.n=n /\ (jP st ids env /\ i6 st ids tab) /\ dD nx env /\ cO nx tab:=by intro e;(first|((simp only [jP,i6,dD,cO,aE.lt,AV.lt,AV.ltL,AV.ren,AV.renL,aE.ren,Xt,List.getD_cons_succ,VI,Wt,jn,aj.get,bh,aj.put,↓reduceIte,reduceCtorEq,Nat.reduceLT,Nat.reduceEqDiff,Nat.reduceAdd,Nat.reduceLeDiff,eq_self,implies_true,e])<;>(repeat' apply And.intro)<;>first|(rw [n9 (by omega)];done)|(simp;done)|omega)|fail)):dC st ⟨n,env,tab,nx⟩:=mo ids ⟨h0,h e⟩
theorem rI {I:aj -> Prop} {μ:aj -> Nat} {n:Nat} {st st':aj} (hw:dC st st') (hI:I st') (hm:μ st'<n:=by simp only [ax,jn,aj.get,bh,aj.put,↓reduceIte,reduceCtorEq,Nat.reduceLT,Nat.reduceEqDiff,Nat.reduceAdd,Nat.reduceLeDiff,eq_self,implies_true];omega):sU I μ n st:=cU hw hI hm
end
section
theorem fb {P : Program} {f : FuncId} {fn : Func} {c : Code} (hf : P.funcs[f]? = some fn) (hb : fn.body = some c) (hname : (fn.name == "runtime.NumGoroutine") = false) : fE P f := fun args w => by
 have : ¬ fn.name = "runtime.NumGoroutine" := by simpa using hname
 simp [callFunc,Sem.run_bind,hf,this,hb]
theorem Gj {w:World} {S:Nat -> Prop} {v u:Value} (h:RT w S v (.c u)):v=u:=by cases h;rfl
theorem Ey {tab:ae} {a:AV} (h:aU a):gt tab a=a:=by
 cases a<;>first|rfl|exact h.elim
theorem sO {tab:ae}:∀ {l:List AV},aM l -> l.map (gt tab)=l
 | [],_=>rfl
 | a :: l,h=>by rw [VY,Ey h.1,sO h.2]
theorem qK {tab:ae}:∀ {l:List AV},aM l -> l.map (ij tab)=l
 | [],_=>rfl
 | a :: l,h=>by
  have h1:ij tab a=a:=by
   have:=h.1;cases a<;>first|rfl|exact this.elim
  rw [VY,h1,qK h.2]
theorem tE {nx:Nat}:∀ {l:List AV},aM l -> AV.ltL nx l
 | [],_=>trivial
 | a :: l,h=>⟨by
   have:=h.1;cases a<;>first|trivial|exact this.elim,tE h.2⟩
theorem Ds {u:Option (Nat × List Nat)} {P:Program} {st:aj} {g:FuncId} {args caps:List AV} {dst:Option Nat} {K:aj -> Prop} {v:Value} (ht:aM caps) (h:aw P g (args.map (gt st.tab) ++ caps) (val v)) (hk:K (st.put dst (.c v))):gy u P st g (args ++ caps) (uL dst K):=
 ay (by rw [VE,sO ht];exact h) hk
theorem cZ {u:Option (Nat × List Nat)} {P:Program} {st:aj} {g:FuncId} {args:List AV} {K:AV -> aj -> Prop} {r:AV} (h:aw P g (args.map (gt st.tab)) ⟨r,[],0⟩) (ho:dJ args \/ r.plain) (hk:K (r.shift st.next) st):gy u P st g args K:=
 sG h (ho.imp id fun h=>⟨h,trivial⟩) hk
theorem dT {α β:Type} (f:α -> β) (l:List α) {k:Nat} (h:k<l.length):(l.take (k+1)).map f=(l.take k).map f ++ [f l[k]]:=by
 rw [Xo,f4 h,VE];rfl
theorem dM {u:Option (Nat × List Nat)} {P:Program} {st:aj} {g:FuncId} {args:List AV} {K:AV -> aj -> Prop} {e:TypeId} {sz:Nat} {rows:List (List AV)} (h:aw P g (args.map (gt st.tab)) (iZ e sz rows)) (ho:dJ args \/ ∀ row ∈ rows,∀ av ∈ row,av.plain) (hk:K (.osl st.next) ⟨st.n,st.env,(st.next,some (.row e sz rows)) :: st.tab,st.next+1⟩):gy u P st g args K:=
 sG h (ho.imp id fun h=>⟨trivial,h,trivial⟩) (by
  have e1:(iZ e sz rows).r.shift st.next=.osl st.next:=by simp [iZ,AV.shift]
  have e2:(iZ e sz rows).tab.shift st.next=[(st.next,some (.row e sz rows))]:=by simp [iZ,ae.shift,aE.shift]
  rw [e1,e2];exact hk)
theorem fr {l:List Int}:∀ row ∈ l.map (fun n=>[eI n]),∀ av ∈ row,av.plain:=fun row hr av ha=>by
 obtain ⟨n,_,rfl⟩:=Vt.1 hr;simp at ha;subst ha;trivial
theorem Fm {α β:Type} (f:β -> α -> β) (b:β) (l:List α) {k:Nat} (h:k<l.length):(l.take (k+1)).foldl f b=f ((l.take k).foldl f b) l[k]:=by
 rw [Xo,f4 h,Wh];rfl
inductive qL:AV -> AV -> Prop
 | refl (a:AV):qL a a
 | nil (sz:Nat):qL (.c (.slice none 0 0)) (.sl sz [])
def pX:List AV -> List AV -> Prop
 | [],[]=>True
 | a :: l,b :: l'=>qL a b /\ pX l l'
 | _,_=>False
def oX:List (List AV) -> List (List AV) -> Prop
 | [],[]=>True
 | a :: l,b :: l'=>pX a b /\ oX l l'
 | _,_=>False
inductive qP:AV -> AV -> Prop
 | refl (a:AV):qP a a
 | nil (sz:Nat):qP (.c (.slice none 0 0)) (.sl sz [])
 | rows {sz:Nat} {r r':List (List AV)} (h:oX r r'):qP (.sl sz r) (.sl sz r')
def yZ:List AV -> List AV -> Prop
 | [],[]=>True
 | a :: l,b :: l'=>qP a b /\ yZ l l'
 | _,_=>False
inductive tv:AV -> AV -> Prop
 | one {a b:AV} (h:qP a b):tv a b
 | agg {l l':List AV} (h:yZ l l'):tv (.agg l) (.agg l')
def nC:List AV -> List AV -> Prop
 | [],[]=>True
 | a :: l,b :: l'=>tv a b /\ nC l l'
 | _,_=>False
theorem qL.rt {w:World} {S:Nat -> Prop} {v:Value} {a b:AV} (h:qL a b) (hr:RT w S v a):RT w S v b:=by
 cases h with
 | refl=>exact hr
 | nil sz=>
  rw [Gj hr];exact .sl none 0 0 sz [] 0 0 (fun _ _=>undef) rfl (Os _) (by omega) (fun h=>by omega) (by simp) (fun h=>by omega) (by simp) (by simp)
theorem pX.spec:∀ {l l':List AV},pX l l' -> l.length=l'.length /\ ∀ (j:Nat) (b:AV),l'[j]? = some b -> ∃ a,l[j]? = some a /\ qL a b
 | [],[],_=>⟨rfl,fun j b h=>by simp at h⟩
 | a :: l,b :: l',h=>by
  obtain ⟨h1,h2⟩:=pX.spec h.2;refine ⟨by simp [h1],fun j b' h3=>?_⟩
  cases j with
  | zero=>
   simp at h3;subst h3;exact ⟨a,rfl,h.1⟩
  | succ j=>exact h2 j b' (by simpa using h3)
 | [],_ :: _,h=>h.elim
 | _ :: _,[],h=>h.elim
theorem oX.spec:∀ {l l':List (List AV)},oX l l' -> l.length=l'.length /\ ∀ (j:Nat) (b:List AV),l'[j]? = some b -> ∃ a,l[j]? = some a /\ pX a b
 | [],[],_=>⟨rfl,fun j b h=>by simp at h⟩
 | a :: l,b :: l',h=>by
  obtain ⟨h1,h2⟩:=oX.spec h.2;refine ⟨by simp [h1],fun j b' h3=>?_⟩
  cases j with
  | zero=>
   simp at h3;subst h3;exact ⟨a,rfl,h.1⟩
  | succ j=>exact h2 j b' (by simpa using h3)
 | [],_ :: _,h=>h.elim
 | _ :: _,[],h=>h.elim
theorem qP.rt {w:World} {S:Nat -> Prop} {v:Value} {a b:AV} (h:qP a b) (hr:RT w S v a):RT w S v b:=by
 cases h with
 | refl=>exact hr
 | nil sz=>exact (qL.nil sz).rt hr
 | rows h=>
  rename_i sz r r';obtain ⟨hl,hx⟩:=h.spec
  cases hr with
  | sl A n cap sz rows b o U hn hc hm hA hs hcell hone hr=>
   have key:∀ i j row' av',r'[i]? = some row' -> row'[j]? = some av' -> ∃ row av,r[i]? = some row /\ row[j]? = some av /\ qL av av':=fun i j row' av' h1 h2=>by
    obtain ⟨row,h3,h4⟩:=hx i row' h1;obtain ⟨av,h5,h6⟩:=h4.spec.2 j av' h2;exact ⟨row,av,h3,h5,h6⟩
   refine .sl A n cap sz r' b o U (hn.trans hl) hc hm hA (fun row' hrow=>?_) (fun h0 i j row' av' h1 h2=>?_) (fun i j row' av' h1 h2=>?_) (fun i j row' av' h1 h2=>?_)
   .obtain ⟨i,hi⟩:=V7 hrow;obtain ⟨row,h3,h4⟩:=hx i row' hi;rw [<- h4.spec.1];exact hs row (p0 h3)
   .obtain ⟨row,av,h3,h4,_⟩:=key i j row' av' h1 h2;exact hcell h0 i j row av h3 h4
   .obtain ⟨row,av,h3,h4,_⟩:=key i j row' av' h1 h2;exact hone i j row av h3 h4
   .obtain ⟨row,av,h3,h4,h5⟩:=key i j row' av' h1 h2;exact h5.rt (hr i j row av h3 h4)
theorem yZ.spec:∀ {l l':List AV},yZ l l' -> l.length=l'.length /\ ∀ (j:Nat) (a b:AV),l[j]? = some a -> l'[j]? = some b -> qP a b
 | [],[],_=>⟨rfl,fun j a b h=>by simp at h⟩
 | a :: l,b :: l',h=>by
  obtain ⟨h1,h2⟩:=yZ.spec h.2;refine ⟨by simp [h1],fun j a' b' h3 h4=>?_⟩
  cases j with
  | zero=>
   simp at h3 h4;subst h3 h4;exact h.1
  | succ j=>exact h2 j a' b' (by simpa using h3) (by simpa using h4)
 | [],_ :: _,h=>h.elim
 | _ :: _,[],h=>h.elim
theorem tv.rt {w:World} {S:Nat -> Prop} {v:Value} {a b:AV} (h:tv a b) (hr:RT w S v a):RT w S v b:=by
 cases h with
 | one h=>exact h.rt hr
 | agg h=>
  obtain ⟨hl,hx⟩:=h.spec
  cases hr with
  | agg xs cs hn hc=>
   refine .agg xs _ (hn.trans hl) fun j x av h1 h2=>?_;rename_i l l';have hj:j<l'.length:=(Vd.1 h2).1;obtain ⟨a,ha⟩:∃ a,l[j]? = some a:=⟨_,f4 (by omega)⟩;exact (hx j a av ha h2).rt (hc j x a h1 ha)
theorem nC.spec:∀ {l l':List AV},nC l l' -> l.length=l'.length /\ ∀ (j:Nat) (a b:AV),l[j]? = some a -> l'[j]? = some b -> tv a b
 | [],[],_=>⟨rfl,fun j a b h=>by simp at h⟩
 | a :: l,b :: l',h=>by
  obtain ⟨h1,h2⟩:=nC.spec h.2;refine ⟨by simp [h1],fun j a' b' h3 h4=>?_⟩
  cases j with
  | zero=>
   simp at h3 h4;subst h3 h4;exact h.1
  | succ j=>exact h2 j a' b' (by simpa using h3) (by simpa using h4)
 | [],_ :: _,h=>h.elim
 | _ :: _,[],h=>h.elim
theorem aw.fits {P:Program} {f:FuncId} {args args':List AV} {R:cM} (h:aw P f args' R) (hf:nC args args'):aw P f args R:=
 ⟨h.1,fun S w vs h1 h2 h3=>h.2 S w vs h1 (h2.trans hf.spec.1) fun j v av h4 h5=>by
  have hj:j<args'.length:=(Vd.1 h5).1;obtain ⟨a,ha⟩:∃ a,args[j]? = some a:=⟨_,f4 (by rw [hf.spec.1];exact hj)⟩;exact (hf.spec.2 j a av ha h5).rt (h3 j v a h4 ha)⟩
theorem dt.fits {P:Program} {f:FuncId} {args args':List AV} {Post:cM -> Prop} (h:dt P f args' Post) (hf:nC args args'):dt P f args Post:=
 ⟨h.1,fun S w vs h1 h2 h3=>h.2 S w vs h1 (h2.trans hf.spec.1) fun j v av h4 h5=>by
  have hj:j<args'.length:=(Vd.1 h5).1;obtain ⟨a,ha⟩:∃ a,args[j]? = some a:=⟨_,f4 (by rw [hf.spec.1];exact hj)⟩;exact (hf.spec.2 j a av ha h5).rt (h3 j v a h4 ha)⟩
theorem lJ {u:Option (Nat × List Nat)} {P:Program} {st:aj} {g:FuncId} {args:List AV} {dst:Option Nat} {K:aj -> Prop} {Q:Bool -> Prop} (h:dt P g (args.map (gt st.tab)) fun R=>∃ b,R=val (.bool b) /\ Q b) (hk:∀ b,Q b -> K (st.put dst (.c (.bool b)))):gy u P st g args (uL dst K):=
 tw h fun R ⟨b,hR,hq⟩=>by subst hR;exact ⟨.inr ⟨trivial,trivial⟩,hk b hq⟩
section
variable {P:Program} {w:World} {d:Nat} {xs ys:Array Value} {f:Field} {fs:List Field}
theorem JH {x y : Value} {b : Bool} {u : TypeDesc} (hn : f.name ≠ "_") (hu : P.underlying f.type = some u) (hs : ∀ fs, u ≠ .struct fs) (ha : ∀ n e, u ≠ .array n e) (hx : xs[f.offset]? = some x) (hy : ys[f.offset]? = some y) (he : (Op.equalIn d f.type x y).run P w = .ok b w) : (Op.eqFields d xs ys (f :: fs)).run P w = if b = true then (Op.eqFields d xs ys fs).run P w else .ok false w := by
 have hp:∀ (zs:Array Value) (z:Value),zs[f.offset]? = some z -> (part f.type zs f.offset).run P w=.ok z w:=fun zs z hz=>by
  simp only [part,Sem.run_bind,isAgg,run_underlying hu,Result.andThen_ok]
  cases u with
  | struct fs=>exact absurd rfl (hs fs)
  | array n e=>exact absurd rfl (ha n e)
  | _=>simp [hz]
 simp only [Op.eqFields,hn,ne_eq,not_false_eq_true,if_true,Sem.run_bind,hp xs x hx,hp ys y hy,Result.andThen_ok,he];cases b<;>simp
def sj:Value -> Value -> Option Bool
 | .bool a,.bool b=>some (a == b)
 | .int k a,.int k' b=>if k=k' then some (a == b) else none
 | .string a,.string b=>some (a == b)
 | _,_=>none
def wX (P:Program) (t:TypeId):Value -> Bool
 | .bool _=>match P.underlying t with | some .bool=>true | _=>false
 | .int k _=>match P.underlying t with | some (.int _)=>true | _=>false
 | .string _=>match P.underlying t with | some .string=>true | _=>false
 | _=>false
theorem Oa {t:TypeId} {x y:Value} {b:Bool} (h:sj x y=some b) (hx:wX P t x=true):(Op.equalIn (d+1) t x y).run P w=.ok b w /\ ∃ u,P.underlying t=some u /\ (∀ fs,u ≠ .struct fs) /\ ∀ n e,u ≠ .array n e:=by
 cases x<;>cases y<;>simp [sj] at h;all_goals (unfold wX at hx;simp only at hx;split at hx)
 all_goals try cases hx
 .rename_i hu;exact ⟨by simp [Op.equalIn,run_underlying hu,h],_,hu,by simp,by simp⟩
 .rename_i hu;obtain ⟨rfl,rfl⟩:=h;exact ⟨by simp [Op.equalIn,run_underlying hu],_,hu,by simp,by simp⟩
 .rename_i hu;exact ⟨by simp [Op.equalIn,run_underlying hu,h],_,hu,by simp,by simp⟩
def my:List (Value × Value) -> Option Bool
 | []=>some true
 | (x,y) :: l=>match sj x y,my l with
  | some b,some c=>some (b && c)
  | _,_=>none
theorem vk : ∀ (fs : List Field) (l : List (Value × Value)) (b : Bool), fs.length = l.length → (∀ (k : Nat) (f : Field) (p : Value × Value), fs[k]? = some f → l[k]? = some p → f.name ≠ "_" ∧ wX P f.type p.1 = true ∧ xs[f.offset]? = some p.1 ∧ ys[f.offset]? = some p.2) → my l = some b → (Op.eqFields (d + 1) xs ys fs).run P w = .ok b w
 | [],[],b,_,_,h=>by
  cases h;simp [Op.eqFields]
 | f :: fs,(x,y) :: l,b,hl,hf,h=>by
  unfold my at h;split at h
  .rename_i b1 b2 h1 h2;cases h;obtain ⟨h3,h4,h5,h6⟩:=hf 0 f (x,y) rfl rfl;obtain ⟨h7,u,hu,h8,h9⟩:=Oa (P:=P) (w:=w) (d:=d) h1 h4;rw [JH h3 hu h8 h9 h5 h6 h7,vk fs l b2 (by simpa using hl) (fun k f p hk hp=>hf (k+1) f p (by simpa using hk) (by simpa using hp)) h2];cases b1<;>simp
  .cases h
theorem uZ {t:TypeId} {op:BinOp} (l:List (Value × Value)) {b:Bool} (ht:P.underlying t=some (.struct (P.fieldsOf t))) (hs:P.stoodInHeld t=false) (hg:P.eqGuardType P.depth t=false) (hl:(P.fieldsOf t).toList.length=l.length)
  (hf : ∀ (k : Nat) (f : Field) (p : Value × Value), (P.fieldsOf t).toList[k]? = some f → l[k]? = some p → f.name ≠ "_" ∧ wX P f.type p.1 = true ∧ xs[f.offset]? = some p.1 ∧ ys[f.offset]? = some p.2) (h : my l = some b) (hop : op = .eql ∨ op = .neq) : tA P op t (.agg xs) (.agg ys) (.bool (if op matches .eql then b else !b)) := fun w x y => by
 have he:∀ w,(Op.equalIn 10000 t (.agg xs) (.agg ys)).run P w=.ok b w:=fun w=>by
  rw [run_equalIn_agg w 9999 t xs ys ht hs];exact vk (P:=P) (d:=9998) _ l b hl hf h
 rcases hop with rfl|rfl
 .simp only [Sem.run_bind,run_eqGuard_agg w _ t x y xs ys hg,Result.andThen_ok,run_eql_struct,he];rfl
 .simp only [Sem.run_bind,run_eqGuard_agg w _ t x y xs ys hg,Result.andThen_ok,run_neq_struct,he];rfl
end
end
section
theorem yQ (x:Int):bits .and .i64 x 1=x % 2:=by
 show IntKind.i64.wrap ((BitVec.ofInt 64 x &&& BitVec.ofInt 64 1).toNat:Int)=_
 have h:(BitVec.ofInt 64 x &&& BitVec.ofInt 64 1).toNat=(x % 2).toNat:=by
  rw [BitVec.toNat_and,show (BitVec.ofInt 64 1).toNat=1 from rfl,Nat.and_one_is_mod,BitVec.toNat_ofInt];omega
 rw [h]
 have:IntKind.i64.wrap (((x % 2).toNat:Nat):Int)=((x % 2).toNat:Int):=by
  simp [IntKind.wrap,IntKind.bits,IntKind.signed];omega
 rw [this];omega
structure ah where
 op:Int
 la:Int
 ln:Int
 ra:Int
 rn:Int
 n:Int
 u:Int
structure St where
 vals:List Int
 opn:Int
 don:Int
 did:List Int
 cnt:List Int
def bp (s i:Int):Bool:=decide (0<=i) && decide (i<31) && (s / 2 ^ i.toNat % 2 == 1)
def Tj (op c:Int):Bool:=
 if op=3 then decide (c<0) else if op=4 then decide (c<=0) else if op=5 then decide (0<c) else if op=6 then decide (0<=c) else if op=7 then c == 0 else if op=8 then c != 0 else false
def yY (a b:Int):Int:=if a<b then -1 else if b<a then 1 else 0
def tb (vals:List Int) (a n:Int):Option Int:=if a = -1 then some n else if a<0 then none else vals[a.toNat]?
def aC (op:Int):Int:=
 if 1<=op /\ op<=14 then 0 else if op=15 \/ (19<=op /\ op<=24) then 1 else if (16<=op /\ op<=18) \/ op=25 \/ op=26 then 2 else -1
def bU (d:Nat) (op:Int):Option Nat:=
 if aC op=0 then some (d+1) else if aC op=1 /\ 1<=d then some d else if aC op=2 /\ 2<=d then some (d - 1) else none
def aZ:List Int -> Nat -> Option Nat
 | [],d=>some d
 | op :: l,d=>match bU d op with
  | some d'=>aZ l d'
  | none=>none
def be (l:List Int):Int:=if l.length=0 then 12 else if 64<l.length then 3 else if aZ l 0=some 1 then 0 else 17
def dN (cm:ah -> Option Int) (opn don:Int) (x:ah) (r:List Bool):Option (List Bool):=
 if x.op=1 \/ x.op=2 then some ((x.op == 1) :: r)
 else if 3<=x.op /\ x.op<=8 then
  match cm x with
  | some c=>some (Tj x.op c :: r)
  | none=>none
 else if x.op=9 then some (bp opn x.n :: r)
 else if x.op=10 then some (bp don x.n :: r)
 else if x.op=15 then
  match r with
  | a :: r=>some ((!a) :: r)
  | []=>none
 else if 16<=x.op /\ x.op<=18 then
  match r with
  | b :: a :: r=>some ((if x.op=16 then a && b else if x.op=17 then a || b else !a || b) :: r)
  | _=>none
 else none
def da (cm:ah -> Option Int) (opn don:Int):List ah -> List Bool -> Option (List Bool)
 | [],r=>some r
 | x :: l,r=>match dN cm opn don x r with
  | some r'=>da cm opn don l r'
  | none=>none
def gj (cm:ah -> Option Int) (opn don:Int) (l:List ah):Option Bool:=
 if be (l.map ah.op) ≠ 0 then none else
  match da cm opn don l [] with
  | some (b :: _)=>some b
  | _=>none
def yb (vals:List Int) (x:ah):Option Int:=match tb vals x.la x.ln,tb vals x.ra x.rn with
 | some a,some b=>some (yY a b)
 | _,_=>none
def i7 (l:List ah) (s:St):Option Bool:=gj (yb s.vals) s.opn s.don l
def jf (o:Option Bool):Bool:=o.getD false
def rg (o:Option Bool):Int:=if o.isSome then 0 else 17
end
section
open Go.RowKit Go.ChangeShapes Go.WideShapes Go.Deep
structure fS (α:Type) where
 size:Nat
 at_:World -> (Nat -> Prop) -> List Value -> α -> Prop
 len:∀ {w:World} {S:Nat -> Prop} {cs:List Value} {a:α},at_ w S cs a -> cs.length=size
 keep:∀ {w w':World} {S:Nat -> Prop} {cs:List Value} {a:α},at_ w S cs a -> (∀ p:Addr,S p.block -> w'.cell? p=w.cell? p) -> at_ w' S cs a
 mono:∀ {w:World} {S S':Nat -> Prop} {cs:List Value} {a:α},at_ w S cs a -> (∀ b,S b -> S' b) -> at_ w S' cs a
def fS.one {α:Type} (r:fS α) (w:World) (S:Nat -> Prop) (v:Value) (a:α):Prop:=r.at_ w S [v] a
def fS.agg {α:Type} (r:fS α) (w:World) (S:Nat -> Prop) (v:Value) (a:α):Prop:=∃ cs:Array Value,v=.agg cs /\ r.at_ w S cs.toList a
def eh (k:IntKind):fS Int where
 size:=1
 at_:=fun _ _ cs n=>cs=[.int k n] /\ (Lit.int k n).wf=true
 len:=fun h=>by rw [h.1];rfl
 keep:=fun h _=>h
 mono:=fun h _=>h
def qq:fS Bool where
 size:=1
 at_:=fun _ _ cs b=>cs=[.bool b]
 len:=fun h=>by rw [h];rfl
 keep:=fun h _=>h
 mono:=fun h _=>h
def qY:fS ByteArray where
 size:=1
 at_:=fun _ _ cs s=>cs=[.string s] /\ s.size<=9223372036854775807
 len:=fun h=>by rw [h.1];rfl
 keep:=fun h _=>h
 mono:=fun h _=>h
def tL {α:Type} (r:fS α) (w:World) (S:Nat -> Prop) (b o:Nat) (l:List α):Prop:=
 ∀ i (h:i<l.length),∃ cs,(∀ j u,cs[j]? = some u -> w.cell? ⟨b,o+i * r.size+j,none⟩=some u) /\ r.at_ w S cs l[i]
theorem BB {α:Type} {r:fS α} {w w':World} {S:Nat -> Prop} {b o:Nat} {l:List α} (h:tL r w S b o l) (hb:S b) (hk:∀ p:Addr,S p.block -> w'.cell? p=w.cell? p):tL r w' S b o l:=by
 intro i hi;obtain ⟨cs,h1,h2⟩:=h i hi;exact ⟨cs,fun j u hu=>(hk _ hb).trans (h1 j u hu),r.keep h2 hk⟩
theorem CT {α:Type} {r:fS α} {w:World} {S S':Nat -> Prop} {b o:Nat} {l:List α} (h:tL r w S b o l) (hB:∀ b,S b -> S' b):tL r w S' b o l:=by
 intro i hi;obtain ⟨cs,h1,h2⟩:=h i hi;exact ⟨cs,h1,r.mono h2 hB⟩
def aF {α:Type} (r:fS α):fS (List α) where
 size:=1
 at_:=fun w S cs l=>∃ A c,cs=[.slice A l.length c] /\ l.length<=c /\ c<=9223372036854775807 /\ (0<l.length -> ∃ b o,A=some ⟨b,o,none⟩ /\ S b /\ tL r w S b o l)
 len:=fun ⟨A,c,h,_⟩=>by rw [h];rfl
 keep:=fun ⟨A,c,h1,h2,h3,h4⟩ hk=>⟨A,c,h1,h2,h3,fun hl=>by
  obtain ⟨b,o,e,hb,hr⟩:=h4 hl;exact ⟨b,o,e,hb,BB hr hb hk⟩⟩
 mono:=fun ⟨A,c,h1,h2,h3,h4⟩ hB=>⟨A,c,h1,h2,h3,fun hl=>by
  obtain ⟨b,o,e,hb,hr⟩:=h4 hl;exact ⟨b,o,e,hB b hb,CT hr hB⟩⟩
def cq {α β:Type} (r:fS α) (s:fS β):fS (α × β) where
 size:=r.size+s.size
 at_:=fun w S cs x=>∃ c1 c2,cs=c1 ++ c2 /\ r.at_ w S c1 x.1 /\ s.at_ w S c2 x.2
 len:=fun ⟨c1,c2,h,h1,h2⟩=>by rw [h,Vi,r.len h1,s.len h2]
 keep:=fun ⟨c1,c2,h,h1,h2⟩ hk=>⟨c1,c2,h,r.keep h1 hk,s.keep h2 hk⟩
 mono:=fun ⟨c1,c2,h,h1,h2⟩ hB=>⟨c1,c2,h,r.mono h1 hB,s.mono h2 hB⟩
def tj:fS Unit where
 size:=0
 at_:=fun _ _ cs _=>cs=[]
 len:=fun h=>by rw [h];rfl
 keep:=fun h _=>h
 mono:=fun h _=>h
theorem fS.below {α:Type} {r:fS α} {w w':World} {S:Nat -> Prop} {B':Nat} {cs:List Value} {a:α} (h:r.at_ w S cs a) (hb:Below B' w w') (hB:∀ b,S b -> b<B'):r.at_ w' S cs a:=
 r.keep h fun p hp=>hb.cell (hB _ hp)
theorem fS.one_below {α:Type} {r:fS α} {w w':World} {S:Nat -> Prop} {B':Nat} {v:Value} {a:α} (h:r.one w S v a) (hb:Below B' w w') (hB:∀ b,S b -> b<B'):r.one w' S v a:=fS.below (r:=r) h hb hB
theorem dY {n:Int} (h:(Lit.int .i64 n).wf=true):-9223372036854775808<=n /\ n<=9223372036854775807:=by
 simpa [Lit.wf,IntKind.min,IntKind.max,IntKind.signed,IntKind.bits] using h
theorem pD {n:Int} (h1:-9223372036854775808<=n) (h2:n<=9223372036854775807):(Lit.int .i64 n).wf=true:=by
 simp [Lit.wf,IntKind.min,IntKind.max,IntKind.signed,IntKind.bits];omega
section
variable {α:Type} {r:fS α} {w w':World} {S:Nat -> Prop} {v:Value} {l:List α}
theorem cB (h:(aF r).one w S v l):∃ A c,v=.slice A l.length c /\ l.length<=c /\ c<=9223372036854775807:=by
 obtain ⟨A,c,h1,h2,h3,_⟩:=h;exact ⟨A,c,by simpa using h1,h2,h3⟩
theorem db {A:Option Addr} {n c:Nat} (h:(aF r).one w S (.slice A n c) l) (hn:0<l.length):∃ b o,A=some ⟨b,o,none⟩ /\ S b /\ tL r w S b o l:=by
 obtain ⟨A',c',h1,_,_,h4⟩:=h;simp at h1;obtain ⟨rfl,_,_⟩:=h1;exact h4 hn
theorem pY (hs:r.size=1) {b o c:Nat} {n:Nat} (h:(aF r).one w S (.slice (some ⟨b,o,none⟩) n c) l) {k:Nat} (hk:k<l.length):∃ u,w.cell? ⟨b,o+k,none⟩=some u /\ r.at_ w S [u] l[k]:=by
 obtain ⟨b',o',e,_,hr⟩:=db h (by omega);simp at e;obtain ⟨rfl,rfl⟩:=e;obtain ⟨cs,h1,h2⟩:=hr k hk;have hl:=r.len h2;rw [hs] at hl h1
 match cs,hl with
 | [u],_=>exact ⟨u,by simpa using h1 0 u rfl,h2⟩
theorem Eo (w:World) (S:Nat -> Prop) (r:fS α):(aF r).one w S (.slice none 0 0) []:=⟨none,0,rfl,Os _,by omega,fun h=>absurd h (by simp)⟩
theorem uR {base:Nat} {e:TypeId} {size n:Nat} {xs:List Value} (h:w.ownsRow base e size v n xs) (hs:r.size=size) (hn:n=l.length) (hx:∀ i (hi:i<l.length),r.at_ w (fun b=>base<=b /\ b<w.heap.size) ((xs.drop (i * size)).take size) l[i]) :
  (aF r).one w (fun b=>base<=b /\ b<w.heap.size) v l:=by
 subst hn;rcases h.2 with ⟨rfl,h0⟩|⟨g,cap,cur,rfl,hb,hg,hc,hm,hcs,ht⟩
 .refine ⟨none,0,by rw [h0],by omega,by omega,fun hl=>by omega⟩
 .refine ⟨some ⟨g,0,none⟩,cap,rfl,hc,by simpa [maxLen] using hm,fun hl=>⟨g,0,rfl,⟨hb,(VJ.1 hg).1⟩,fun i hi=>⟨_,fun j u hu=>?_,hx i hi⟩⟩⟩
  have hj:j<size:=by
   have:=(Vd.1 hu).1;simp at this;omega
  rw [V0,Vn hj,VV] at hu;have:=h.cells (g:=g) rfl _ u hu;rw [im] at this;rw [hs,WR];exact this
theorem nI {base:Nat} {e:TypeId} {n:Nat} (f:α -> Value) (h:w.ownsRow base e 1 v n (l.map f)) (hs:r.size=1) (hx:∀ a ∈ l,r.at_ w (fun b=>base<=b /\ b<w.heap.size) [f a] a):(aF r).one w (fun b=>base<=b /\ b<w.heap.size) v l:=by
 have hn:n=l.length:=by have:=h.1;simp at this;omega
 refine uR h hs hn fun i hi=>?_
 have e:(((l.map f).drop (i * 1)).take 1)=[f l[i]]:=by
  rw [Nat.mul_one,WH (by simpa using hi)];simp
 rw [e];exact hx _ (Vf hi)
theorem dx (h:(aF r).one w S v l) {B':Nat} (hb:Below B' w w') (hB:∀ b,S b -> b<B'):(aF r).one w' S v l:=fS.one_below h hb hB
theorem dg (h:(aF r).one w S v l) {S':Nat -> Prop} (hB:∀ b,S b -> S' b):(aF r).one w S' v l:=fS.mono (aF r) h hB
theorem gP (h:(aF r).one w S v l) (hk:∀ p:Addr,S p.block -> w'.cell? p=w.cell? p):(aF r).one w' S v l:=fS.keep (aF r) h hk
end
theorem NJ {w:World} {S:Nat -> Prop} {b o c n:Nat} {l:List Int} (h:(aF (eh .i64)).one w S (.slice (some ⟨b,o,none⟩) n c) l) {k:Nat} (hk:k<l.length) :
  w.cell? ⟨b,o+k,none⟩=some (.int .i64 l[k]) /\ -9223372036854775808<=l[k] /\ l[k]<=9223372036854775807:=by
 obtain ⟨u,h1,h2⟩:=pY (r:=eh .i64) rfl h hk;obtain ⟨h2,h3⟩:=h2;simp at h2;subst h2;exact ⟨h1,dY h3⟩
theorem LS {w:World} {S:Nat -> Prop} {b o c n:Nat} {l:List Bool} (h:(aF qq).one w S (.slice (some ⟨b,o,none⟩) n c) l) {k:Nat} (hk:k<l.length) :
  w.cell? ⟨b,o+k,none⟩=some (.bool l[k]):=by
 obtain ⟨u,h1,h2⟩:=pY (r:=qq) rfl h hk;have h2:[u]=[Value.bool l[k]]:=h2;simp at h2;subst h2;exact h1
theorem DQ {α:Type} {r:fS α} {w:World} {S:Nat -> Prop} {b o c n:Nat} {l:List (List α)} (h:(aF (aF r)).one w S (.slice (some ⟨b,o,none⟩) n c) l) {k:Nat} (hk:k<l.length) :
  ∃ A c',w.cell? ⟨b,o+k,none⟩=some (.slice A l[k].length c') /\ l[k].length<=c' /\ c'<=9223372036854775807 /\ (aF r).one w S (.slice A l[k].length c') l[k]:=by
 obtain ⟨u,h1,h2⟩:=pY (r:=aF r) rfl h hk;obtain ⟨A,c',rfl,h3,h4⟩:=cB h2;exact ⟨A,c',h1,h3,h4,h2⟩
theorem zz {α:Type} {p:Nat -> α -> Prop}:∀ {n:Nat},(∀ i,i<n -> ∃ y,p i y) -> ∃ l:List α,l.length=n /\ ∀ i (h:i<l.length),p i l[i]:=by
 intro n
 induction n with
 | zero=>intro _;exact ⟨[],rfl,fun i h=>absurd h (by simp)⟩
 | succ n ih=>
  intro h;obtain ⟨l,h1,h2⟩:=ih fun i hi=>h i (by omega);obtain ⟨y,hy⟩:=h n (by omega);refine ⟨l ++ [y],by simp [h1],fun i hi=>?_⟩;by_cases hin:i<l.length
  .rw [W4 hin];exact h2 i hin
  .have:i=l.length:=by simp at hi;omega
   subst this;rw [Xl (by omega)];simpa [h1] using hy
def dL {α:Type} (P:Program) (t:TypeId) (r:fS α):Prop:=∀ (H:Type) (enc:TypeId × Value -> H) (w:World) (fuel:Nat) (cs:List Value) (x:DataW H × List MemPlace),
 DataW.trod enc P w 0 (fun _=>true) true fuel t cs=some x -> ∃ a,r.at_ w (fun b=>b<w.heap.size) cs a
section
variable {P:Program}
theorem uI {t:TypeId} {k:IntKind} (h:P.underlying t=some (.int k)):dL P t (eh k):=by
 intro H enc w fuel cs x hx;obtain ⟨n,rfl,_,hw⟩:=DataW.trod_int h hx;exact ⟨n,rfl,hw⟩
theorem Cw {t:TypeId} (h:P.underlying t=some .bool):dL P t qq:=by
 intro H enc w fuel cs x hx;obtain ⟨b,rfl,_⟩:=DataW.trod_bool h hx;exact ⟨b,rfl⟩
theorem cr {α:Type} {t e:TypeId} {r:fS α} (ht:P.underlying t=some (.slice e)) (hs:P.cellsOf e=r.size) (hp:0<r.size) (ho:dL P e r):dL P t (aF r):=by
 intro H enc w fuel cs x hx;rcases Go.Deep.open_slice ht hx with ⟨rfl,_⟩|⟨a,len,cap,m,n,D,Pl,rfl,_,hl,hm,hmm,_,hi⟩
 .exact ⟨[],Eo _ _ _⟩
 .simp only [if_true] at hmm;subst hmm
  obtain ⟨l,hll,hl2⟩:=zz (n:=len) (p:=fun i y=>∃ cs',w.cells? 0 (a.add (i * P.cellsOf e)) (P.cellsOf e)=some cs' /\ r.at_ w (fun b=>b<w.heap.size) cs' y) (fun i hil=>by
   obtain ⟨cs',h1,h2⟩:=hi i (by omega);obtain ⟨y,hy⟩:=ho H enc w n cs' _ h2;exact ⟨y,cs',h1,hy⟩)
  subst hll;refine ⟨l,some a,_,rfl,hl,by simpa [maxLen] using hm,fun h0=>?_⟩;obtain ⟨cs0,h1,h2⟩:=hl2 0 h0;obtain ⟨_,hlen,hc⟩:=World.cells?_some h1;have hc0:=hc 0 (by omega);have hlt:0<cs0.length:=by rw [hlen];omega
  rw [f4 hlt] at hc0;have e0:(a.add (0 * P.cellsOf e)).add 0=a:=by simp [Addr.add]
  rw [e0] at hc0;have hb:=World.block_lt_of_cell? w a hc0
  have hsp:a.spot=none:=by
   unfold World.cell? at hc0;split at hc0
   .split at hc0
    .cases hc0
    .rename_i h5;simpa using h5
   .cases hc0
  obtain ⟨b,o,sp⟩:=a;simp only at hsp hb;subst hsp;refine ⟨b,o,rfl,hb,fun i hi'=>?_⟩;obtain ⟨cs',h1,h2⟩:=hl2 i hi';refine ⟨cs',fun j u hu=>?_,h2⟩;obtain ⟨_,hlen',hc'⟩:=World.cells?_some h1
  have hj:j<P.cellsOf e:=by
   have:=(Vd.1 hu).1;omega
  have:=hc' j hj;rw [hu,Go.Deep.add_add,hs] at this;rw [<- this]
  congr 1
  unfold Addr.add;split
  .rename_i h6;simp_all
  .simp [Wx]
end
end
section
def aI (n:Int):Prop:=-9223372036854775808<=n /\ n<=9223372036854775807
def ah.cells (x:ah):List Value:=[.int .i64 x.op,.int .i64 x.la,.int .i64 x.ln,.int .i64 x.ra,.int .i64 x.rn,.int .i64 x.n,.int .i64 x.u]
def ah.ok (x:ah):Prop:=aI x.op /\ aI x.la /\ aI x.ln /\ aI x.ra /\ aI x.rn /\ aI x.n /\ aI x.u
def fC:fS ah where
 size:=7
 at_:=fun _ _ cs x=>cs=x.cells /\ x.ok
 len:=fun h=>by rw [h.1];rfl
 keep:=fun h _=>h
 mono:=fun h _=>h
structure ft where
 op:Int
 ln:ByteArray
 lv:Int
 rn:ByteArray
 rv:Int
 name:ByteArray
 user:ByteArray
 line:Int
 col:Int
def ft.cells (x:ft):List Value:=[.int .i64 x.op,.string x.ln,.int .i64 x.lv,.string x.rn,.int .i64 x.rv,.string x.name,.string x.user,.int .i64 x.line,.int .i64 x.col]
def ft.ok (x:ft):Prop:=aI x.op /\ aI x.lv /\ aI x.rv /\ aI x.line /\ aI x.col /\ x.ln.size<=9223372036854775807 /\ x.rn.size<=9223372036854775807 /\ x.name.size<=9223372036854775807 /\ x.user.size<=9223372036854775807
def t3:fS ft where
 size:=9
 at_:=fun _ _ cs x=>cs=x.cells /\ x.ok
 len:=fun h=>by rw [h.1];rfl
 keep:=fun h _=>h
 mono:=fun h _=>h
theorem zw {α:Type} {r:fS α} {cells:α -> List Value} {ok:α -> Prop} (hr:∀ w S cs x,r.at_ w S cs x -> cs=cells x /\ ok x) {w:World} {S:Nat -> Prop} {b o c n:Nat} {l:List α} (h:(aF r).one w S (.slice (some ⟨b,o,none⟩) n c) l) {k:Nat} (hk:k<l.length) :
  (∀ j u,(cells l[k])[j]? = some u -> w.cell? ⟨b,o+k * r.size+j,none⟩=some u) /\ ok l[k]:=by
 obtain ⟨b',o',e,_,hrow⟩:=db h (by omega);simp at e;obtain ⟨rfl,rfl⟩:=e;obtain ⟨cs,h1,h2⟩:=hrow k hk;obtain ⟨rfl,h3⟩:=hr _ _ _ _ h2;exact ⟨h1,h3⟩
theorem tC {w:World} {S:Nat -> Prop} {b o c n:Nat} {l:List ah} (h:(aF fC).one w S (.slice (some ⟨b,o,none⟩) n c) l) {k:Nat} (hk:k<l.length) :
  (∀ j u,(l[k].cells)[j]? = some u -> w.cell? ⟨b,o+k * 7+j,none⟩=some u) /\ l[k].ok:=zw (r:=fC) (cells:=ah.cells) (ok:=ah.ok) (fun _ _ _ _ h=>h) h hk
theorem JL {w:World} {S:Nat -> Prop} {b o c n:Nat} {l:List ft} (h:(aF t3).one w S (.slice (some ⟨b,o,none⟩) n c) l) {k:Nat} (hk:k<l.length) :
  (∀ j u,(l[k].cells)[j]? = some u -> w.cell? ⟨b,o+k * 9+j,none⟩=some u) /\ l[k].ok:=zw (r:=t3) (cells:=ft.cells) (ok:=ft.ok) (fun _ _ _ _ h=>h) h hk
theorem rS {α:Type} {r:fS α} (cells:α -> List Value) {l:List α} {w:World} {v:Value} {base:Nat} {e:TypeId} {n:Nat} (hx:∀ x ∈ l,r.at_ w (fun b=>base<=b /\ b<w.heap.size) (cells x) x) (h:w.ownsRow base e r.size v n (l.flatMap cells)) (h0:0<r.size) :
  (aF r).one w (fun b=>base<=b /\ b<w.heap.size) v l:=by
 have hlen:∀ x ∈ l,(cells x).length=r.size:=fun x hx'=>r.len (hx x hx')
 have key:∀ (l:List α),(∀ x ∈ l,(cells x).length=r.size) -> (l.flatMap cells).length=l.length * r.size /\ ∀ i (hi:i<l.length),((l.flatMap cells).drop (i * r.size)).take r.size=cells l[i]:=by
  intro l
  induction l with
  | nil=>intro _;exact ⟨by simp,fun i hi=>by simp at hi⟩
  | cons a l ih=>
   intro hl;obtain ⟨h1,h2⟩:=ih (fun x hx=>hl x (by simp [hx]));have ha:=hl a (by simp);refine ⟨by rw [Ww,Vi,h1,ha,VI,Xh];omega,fun i hi=>?_⟩;rw [Ww]
   cases i with
   | zero=>rw [Xf,List.drop_zero,<- ha,List.take_left];rfl
   | succ i=>
    rw [Xh,Nat.add_comm,<- ha,List.drop_append,ha,List.drop_of_length_le (by omega),WT,show r.size+i * r.size - r.size=i * r.size by omega];exact h2 i (by simpa using hi)
 obtain ⟨h1,h2⟩:=key l hlen
 have hn:n=l.length:=by
  have:=h.1;rw [h1] at this;exact (Nat.eq_of_mul_eq_mul_right h0 this).symm
 exact uR h rfl hn fun i hi=>by rw [h2 i hi];exact hx _ (Vf hi)
end
section
open Go.RowKit Go.ChangeShapes Go.WideShapes Go.Deep
def xQ {α:Type} (P:Program) (fs:List Field) (off:Nat) (r:fS α):Prop:=∀ (H:Type) (enc:TypeId × Value -> H) (w:World) (fuel:Nat) (cs:List Value),
 off+r.size<=cs.length -> (∀ (i:Nat) (f:Field),fs[i]? = some f -> ∃ x,DataW.trod enc P w 0 (fun _=>true) true fuel f.type ((cs.drop f.offset).take (P.cellsOf f.type))=some x) ->
 ∃ a,r.at_ w (fun b=>b<w.heap.size) ((cs.drop off).take r.size) a
theorem dH (P:Program) (off:Nat):xQ P [] off tj:=fun _ _ _ _ _ _ _=>⟨(),by simp [tj]⟩
theorem aH {α β:Type} {P:Program} {f:Field} {fs:List Field} {off:Nat} {r:fS α} {s:fS β} (ho:f.offset=off) (hc:P.cellsOf f.type=r.size) (h1:dL P f.type r) (h2:xQ P fs (off+r.size) s):xQ P (f :: fs) off (cq r s):=by
 intro H enc w fuel cs hl hf;have hlr:off+(r.size+s.size)<=cs.length:=hl;obtain ⟨x,hx⟩:=hf 0 f rfl;obtain ⟨a,ha⟩:=h1 H enc w fuel _ _ hx;obtain ⟨b,hb⟩:=h2 H enc w fuel cs (by omega) (fun i g hg=>hf (i+1) g (by simpa using hg));refine ⟨(a,b),_,_,?_,ha,hb⟩;rw [ho,hc];show List.take (r.size+s.size) (cs.drop off)=_;rw [List.take_add,List.drop_drop]
theorem cG {α:Type} {P:Program} {t:TypeId} {fs:Array Field} {r:fS α} (ht:P.underlying t=some (.struct fs)) (hc:P.cellsOf t=r.size) (ho:xQ P fs.toList 0 r):dL P t r:=by
 intro H enc w fuel cs x hx;obtain ⟨xs,n,_,_,hl,hlen,hf⟩:=DataW.trod_struct ht hx
 obtain ⟨a,ha⟩:=ho H enc w n cs (by omega) (fun i f hfi=>by
  have hfi':fs[i]? = some f:=by simpa using hfi
  have h1:=hf i f hfi';have hi:i<xs.length:=by rw [hlen];exact (VJ.1 hfi').1
  exact ⟨xs[i],by rw [h1,f4 hi]⟩)
 refine ⟨a,?_⟩
 rwa [List.drop_zero,VK (by omega)] at ha
theorem xJ {P:Program} {t:TypeId} (h:P.underlying t=some .string):dL P t qY:=by
 intro H enc w fuel cs x hx;obtain ⟨s,rfl,_,hs⟩:=DataW.trod_string h hx;exact ⟨s,rfl,by simpa [maxLen] using hs⟩
theorem gL {α β:Type} {P:Program} {t:TypeId} {r:fS α} {s:fS β} (h:dL P t r) (f:α -> β) (hf:∀ w S cs a,r.at_ w S cs a -> s.at_ w S cs (f a)):dL P t s:=by
 intro H enc w fuel cs x hx;obtain ⟨a,ha⟩:=h H enc w fuel cs x hx;exact ⟨f a,hf _ _ _ _ ha⟩
theorem un {P:Program} {W:World} {r:Reach} {b:Nat} {t:TypeId} {fs:Array Field} {v:Value} (ht:P.underlying t=some (.struct fs)) (h:Value.okWide P W r b t v):∃ cs,v=.agg cs /\ cs.size=P.cellsOf t:=by
 simp only [Value.okWide,ht] at h;obtain ⟨cs,h1,h2,_⟩:=h;exact ⟨cs,h1,h2⟩
theorem bb {α β:Type} {r:fS α} {s:fS β} {w:World} {S:Nat -> Prop} {cs:List Value} {p:α × β} (h:(cq r s).at_ w S cs p):∃ c1 c2,cs=c1 ++ c2 /\ r.at_ w S c1 p.1 /\ s.at_ w S c2 p.2:=h
theorem fx {α:Type} {r:fS α} {w:World} {S:Nat -> Prop} {cs:List Value} {a:α} (hr:r.size=1) (h:r.at_ w S cs a):∃ v,cs=[v] /\ r.one w S v a:=by
 have:=r.len h;rw [hr] at this
 match cs,this with
 | [v],_=>exact ⟨v,rfl,h⟩
end
section
structure Gd where
 stage:Int
 event:Int
 cond:List ah
structure Ml where
 name:ByteArray
 stage:Int
 event:Int
 cond:List ah
 final:Bool
structure Ev where
 name:ByteArray
 role:Int
 stage:Int
 sets:List Int
 times:Int
structure bk where
 attrs:List ByteArray
 inits:List Int
 users:List ByteArray
 roles:List (ByteArray × Int)
 stages:List (ByteArray × Int)
 events:List Ev
 guards:List Gd
 miles:List Ml
 sods:List (Int × Int)
 order:List (Bool × Int)
def LR (s:ByteArray):Prop:=s.size<=9223372036854775807
def fN:fS (ByteArray × Int) where
 size:=2
 at_:=fun _ _ cs x=>cs=[.string x.1,.int .i64 x.2] /\ LR x.1 /\ aI x.2
 len:=fun h=>by rw [h.1];rfl
 keep:=fun h _=>h
 mono:=fun h _=>h
def om:fS (Int × Int) where
 size:=2
 at_:=fun _ _ cs x=>cs=[.int .i64 x.1,.int .i64 x.2] /\ aI x.1 /\ aI x.2
 len:=fun h=>by rw [h.1];rfl
 keep:=fun h _=>h
 mono:=fun h _=>h
def oC:fS (Bool × Int) where
 size:=2
 at_:=fun _ _ cs x=>cs=[.bool x.1,.int .i64 x.2] /\ aI x.2
 len:=fun h=>by rw [h.1];rfl
 keep:=fun h _=>h
 mono:=fun h _=>h
def Ts:fS Gd where
 size:=3
 at_:=fun w S cs g=>∃ cv,cs=[.int .i64 g.stage,.int .i64 g.event,cv] /\ (aF fC).one w S cv g.cond /\ aI g.stage /\ aI g.event
 len:=fun ⟨_,h,_⟩=>by rw [h];rfl
 keep:=fun ⟨cv,h,h2,h3⟩ hk=>⟨cv,h,gP h2 hk,h3⟩
 mono:=fun ⟨cv,h,h2,h3⟩ hB=>⟨cv,h,dg h2 hB,h3⟩
def Tk:fS Ml where
 size:=5
 at_:=fun w S cs g=>∃ cv,cs=[.string g.name,.int .i64 g.stage,.int .i64 g.event,cv,.bool g.final] /\ (aF fC).one w S cv g.cond /\ aI g.stage /\ aI g.event /\ LR g.name
 len:=fun ⟨_,h,_⟩=>by rw [h];rfl
 keep:=fun ⟨cv,h,h2,h3⟩ hk=>⟨cv,h,gP h2 hk,h3⟩
 mono:=fun ⟨cv,h,h2,h3⟩ hB=>⟨cv,h,dg h2 hB,h3⟩
def UF:fS Ev where
 size:=5
 at_:=fun w S cs g=>∃ cv,cs=[.string g.name,.int .i64 g.role,.int .i64 g.stage,cv,.int .i64 g.times] /\ (aF (eh .i64)).one w S cv g.sets /\ aI g.role /\ aI g.stage /\ aI g.times /\ LR g.name
 len:=fun ⟨_,h,_⟩=>by rw [h];rfl
 keep:=fun ⟨cv,h,h2,h3⟩ hk=>⟨cv,h,gP h2 hk,h3⟩
 mono:=fun ⟨cv,h,h2,h3⟩ hB=>⟨cv,h,dg h2 hB,h3⟩
def SI {α:Type} (r:fS α) (w:World) (v:Value) (l:List α):Prop:=(aF r).one w (fun b=>b<w.heap.size) v l
theorem SI.below {α:Type} {r:fS α} {w w':World} {v:Value} {l:List α} (h:SI r w v l) (hb:Below w.heap.size w w'):SI r w' v l:=dg (dx h hb fun b h=>h) fun b h=>Vm h hb.size
theorem SI.mk {α:Type} {r:fS α} {w:World} {S:Nat -> Prop} {v:Value} {l:List α} (h:(aF r).one w S v l) (hS:∀ b,S b -> b<w.heap.size):SI r w v l:=dg h hS
theorem SI.form {α:Type} {r:fS α} {w:World} {v:Value} {l:List α} (h:SI r w v l):∃ A c,v=.slice A l.length c /\ l.length<=c /\ c<=9223372036854775807:=cB h
structure MV where
 attrs:Value
 inits:Value
 users:Value
 roles:Value
 stages:Value
 events:Value
 guards:Value
 miles:Value
 sods:Value
 order:Value
abbrev MV.cells (V:MV):Array Value:=#[V.attrs,V.inits,V.users,V.roles,V.stages,V.events,V.guards,V.miles,V.sods,V.order]
structure yK (w:World) (V:MV) (m:bk):Prop where
 attrs:SI qY w V.attrs m.attrs
 inits:SI (eh .i64) w V.inits m.inits
 users:SI qY w V.users m.users
 roles:SI fN w V.roles m.roles
 stages:SI fN w V.stages m.stages
 events:SI UF w V.events m.events
 guards:SI Ts w V.guards m.guards
 miles:SI Tk w V.miles m.miles
 sods:SI om w V.sods m.sods
 order:SI oC w V.order m.order
theorem yK.below {w w':World} {V:MV} {m:bk} (h:yK w V m) (hb:Below w.heap.size w w'):yK w' V m:=
 ⟨h.attrs.below hb,h.inits.below hb,h.users.below hb,h.roles.below hb,h.stages.below hb,h.events.below hb,h.guards.below hb,h.miles.below hb,h.sods.below hb,h.order.below hb⟩
end
section
theorem nJ (i:Int) (w:World):Calls Tryz.prog 156 #[.int .i64 i] w fun e w'=>e=.returned (.bool (decide (0<=i) && decide (i<31))) /\ w=w':=by
 by_cases h:0<=i<;>(go_enter Tryz.func156,Tryz.ntmps156;go_wp2;go_ret;exact ⟨by congr 2;simp [h]<;>omega,rfl⟩)
theorem ox {a b:Bool} (h:a=b):Ending.returned (.bool a)=.returned (.bool b):=by rw [h]
theorem Np {a b:Int} (h:a=b):Ending.returned (.int .i64 a)=.returned (.int .i64 b):=by rw [h]
theorem xE (s i:Int) (w:World):Calls Tryz.prog 129 #[.int .i64 s,.int .i64 i] w fun e w'=>e=.returned (.bool (bp s i)) /\ w=w':=by
 by_cases h0:0<=i
 .by_cases h1:i<31
  .have e0:decide (0<=i)=true:=by simp;omega
   have e1:decide (i<31)=true:=by simp;omega
   go_enter Tryz.func129,Tryz.ntmps129
   go_wp2_with (go_at_call 156;refine (nJ _ _).mono ?_;rintro e w' ⟨rfl,rfl⟩)
   go_ret
   exact ⟨ox (by unfold bp;rw [yQ,e0,e1];rfl),rfl⟩
  .have e0:decide (0<=i)=true:=by simp;omega
   have e1:decide (i<31)=false:=by simp;omega
   go_enter Tryz.func129,Tryz.ntmps129
   go_wp2_with (go_at_call 156;refine (nJ _ _).mono ?_;rintro e w' ⟨rfl,rfl⟩)
   go_ret
   exact ⟨ox (by unfold bp;rw [e0,e1];rfl),rfl⟩
 .have e0:decide (0<=i)=false:=by simp;omega
  go_enter Tryz.func129,Tryz.ntmps129
  go_wp2_with (go_at_call 156;refine (nJ _ _).mono ?_;rintro e w' ⟨rfl,rfl⟩)
  go_ret
  exact ⟨ox (by unfold bp;rw [e0];rfl),rfl⟩
theorem Sc (op c:Int) (w:World):Calls Tryz.prog 190 #[.int .i64 op,.int .i64 c] w fun e w'=>e=.returned (.bool (Tj op c)) /\ w=w':=by
 have key:(op=3 \/ op=4 \/ op=5 \/ op=6 \/ op=7 \/ op=8) \/ ((op == 3)=false /\ (op == 4)=false /\ (op == 5)=false /\ (op == 6)=false /\ (op == 7)=false /\ (op == 8)=false):=by
  simp;omega
 rcases key with (rfl|rfl|rfl|rfl|rfl|rfl)|⟨h3,h4,h5,h6,h7,h8⟩
 all_goals
  go_enter Tryz.func190,Tryz.ntmps190
  go_wp2
  go_ret
  refine ⟨ox ?_,rfl⟩
  first|rfl|(simp at h3 h4 h5 h6 h7 h8;simp [Tj, *])
theorem j0 (op:Int) (w:World):Calls Tryz.prog 37 #[.int .i64 op] w fun e w'=>e=.returned (.int .i64 (aC op)) /\ w=w':=by
 have key:(1<=op /\ op<=14) \/ op=15 \/ (19<=op /\ op<=24) \/ (16<=op /\ op<=18) \/ op=25 \/ op=26 \/ op<1 \/ 26<op:=by omega
 rcases key with ⟨h1,h2⟩|rfl|⟨h1,h2⟩|⟨h1,h2⟩|rfl|rfl|h1|h1
 all_goals
  go_enter Tryz.func37,Tryz.ntmps37
  go_wp2
  all_goals go_ret
  all_goals refine ⟨Np ?_,rfl⟩
  all_goals (unfold aC;(repeat' split)<;>first|rfl|omega)
end
end
section
section
def kR (s:Int):Nat:=(s % 2147483648).toNat
theorem gn (s:Int):kR s<2 ^ 31:=by unfold kR;omega
theorem tN (n:Nat) (h:n<2 ^ 31):kR (n:Int)=n:=by unfold kR;omega
def dK (s i:Int):Int:=if 0<=i /\ i<31 then ((kR s ||| 2 ^ i.toNat:Nat):Int) else (kR s:Int)
def co (s i:Int):Int:=if 0<=i /\ i<31 then ((kR s ^^^ (kR s &&& 2 ^ i.toNat):Nat):Int) else (kR s:Int)
theorem cS (s:Int) (j:Nat) (hj:j<31):bp s (j:Int)=(kR s).testBit j:=by
 have h1:bp s (j:Int)=(s / 2 ^ j % 2 == 1):=by
  unfold bp;rw [show decide (0<=(j:Int))=true by simp,show decide ((j:Int)<31)=true by simp;omega];rfl
 rw [h1,Nat.testBit_eq_decide_div_mod_eq]
 have hs:s=2 ^ j * (2 ^ (30 - j) * 2 * (s / 2147483648))+s % 2147483648:=by
  have e:(2:Int) ^ j * (2 ^ (30 - j) * 2 * (s / 2147483648))=(2 ^ j * 2 ^ (30 - j) * 2) * (s / 2147483648):=by
   rw [<- Int.mul_assoc,<- Int.mul_assoc]
  rw [e,<- Int.pow_add,show j+(30 - j)=30 by omega];have:=Int.mul_ediv_add_emod s 2147483648;omega
 have h2:s / 2 ^ j % 2=((kR s / 2 ^ j % 2:Nat):Int):=by
  have hr:((kR s:Nat):Int)=s % 2147483648:=by unfold kR;omega
  rw [Int.natCast_emod,Int.natCast_ediv,hr];have hp:((2 ^ j:Nat):Int)=2 ^ j:=by simp
  rw [hp]
  conv=>lhs;rw [hs]
  rw [Int.add_comm,Int.add_mul_ediv_left _ _ (by have:(0:Int)<2 ^ j:=Int.pow_pos (by omega);omega)];rw [show (2:Int) ^ (30 - j) * 2 * (s / 2147483648)=2 * (2 ^ (30 - j) * (s / 2147483648)) by rw [Int.mul_comm ((2:Int) ^ (30 - j)) 2,Int.mul_assoc]];omega
 rw [h2];generalize kR s / 2 ^ j % 2=n;rw [Wo];simp;omega
theorem jg (s j:Int) (hj:¬ (0<=j /\ j<31)):bp s j=false:=by
 unfold bp;by_cases h:0<=j
 .rw [show decide (j<31)=false by simp;omega];simp
 .rw [show decide (0<=j)=false by simp;omega];rfl
theorem vc (s i j:Int):bp (dK s i) j=((decide (0<=i /\ i<31) && (j == i)) || bp s j):=by
 by_cases hj:0<=j /\ j<31
 .obtain ⟨n,rfl⟩:∃ n:Nat,j=(n:Int):=⟨j.toNat,by omega⟩;unfold dK;by_cases hi:0<=i /\ i<31
  .obtain ⟨k,rfl⟩:∃ k:Nat,i=(k:Int):=⟨i.toNat,by omega⟩;have hl:kR s ||| 2 ^ k<2 ^ 31:=Nat.or_lt_two_pow (gn s) (Nat.pow_lt_pow_right (by omega) (by omega));rw [Vn hi,WA,cS _ _ (by omega),tN _ hl,Nat.testBit_or,cS _ _ (by omega),Nat.testBit_two_pow,Bool.or_comm]
   congr 1
   rw [Wo];simp;omega
  .rw [Vh hi,cS _ _ (by omega),tN _ (gn s),cS _ _ (by omega)];simp [hi]
 .rw [jg _ _ hj,jg _ _ hj,Bool.or_false];symm;rw [VW];by_cases hi:0<=i /\ i<31
  .right;exact VN.2 (by omega)
  .left;simpa using hi
theorem iG (s i j:Int):bp (co s i) j=(!(j == i) && bp s j):=by
 by_cases hj:0<=j /\ j<31
 .obtain ⟨n,rfl⟩:∃ n:Nat,j=(n:Int):=⟨j.toNat,by omega⟩;unfold co;by_cases hi:0<=i /\ i<31
  .obtain ⟨k,rfl⟩:∃ k:Nat,i=(k:Int):=⟨i.toNat,by omega⟩;have hl:kR s ^^^ (kR s &&& 2 ^ k)<2 ^ 31:=Nat.xor_lt_two_pow (gn s) (XD Nat.and_le_left (gn s));rw [Vn hi,WA,cS _ _ (by omega),tN _ hl,Nat.testBit_xor,Nat.testBit_and,Nat.testBit_two_pow,cS _ _ (by omega)];by_cases e:n=k
   .subst e;cases (kR s).testBit n<;>simp
   .rw [show ((n:Int) == (k:Int))=false from VN.2 (by omega),show decide (k=n)=false by simp;omega];simp
  .rw [Vh hi,cS _ _ (by omega),tN _ (gn s),cS _ _ (by omega),show ((n:Int) == i)=false from VN.2 (by omega)];rfl
 .rw [jg _ _ hj,jg _ _ hj,Bool.and_false]
theorem ig (a:Nat) (ha:a<2 ^ 64):(BitVec.ofInt 64 (a:Int)).toNat=a:=by
 rw [BitVec.ofInt_natCast,BitVec.toNat_ofNat];exact Nat.mod_eq_of_lt ha
theorem tU (n:Nat) (h:n<2 ^ 63):IntKind.i64.wrap (n:Int)=(n:Int):=by
 simp [IntKind.wrap,IntKind.bits,IntKind.signed];omega
end
section
abbrev bX (x:ah):List AV:=[eI x.op,eI x.la,eI x.ln,eI x.ra,eI x.rn,eI x.n,eI x.u]
abbrev aR (l:List ah):AV:=.sl 7 (l.map bX)
abbrev IK (g:Gd):List AV:=[eI g.stage,eI g.event,aR g.cond]
abbrev Hj (g:Ml):List AV:=[eS g.name,eI g.stage,eI g.event,aR g.cond,eB g.final]
abbrev MU (g:Ev):List AV:=[eS g.name,eI g.role,eI g.stage,sI g.sets,eI g.times]
abbrev Tw (p:ByteArray × Int):List AV:=[eS p.1,eI p.2]
abbrev Tu (p:Int × Int):List AV:=[eI p.1,eI p.2]
abbrev ya (p:Bool × Int):List AV:=[eB p.1,eI p.2]
abbrev aW (m:bk):List AV:=[.sl 1 (m.attrs.map fun s=>[eS s]),sI m.inits,.sl 1 (m.users.map fun s=>[eS s]),.sl 2 (m.roles.map Tw),.sl 2 (m.stages.map Tw),.sl 5 (m.events.map MU),.sl 3 (m.guards.map IK),.sl 5 (m.miles.map Hj),.sl 2 (m.sods.map Tu),.sl 2 (m.order.map ya)]
abbrev gE (s:St):List AV:=[sI s.vals,eI s.opn,eI s.don,sI s.did,sI s.cnt]
def gA (m:bk):List Int:=m.stages.map (·.2)
def CR (m:bk):Prop:=(∀ g ∈ m.guards,∀ x ∈ g.cond,x.ok) /\ ∀ g ∈ m.miles,∀ x ∈ g.cond,x.ok
theorem ag:Tryz.prog.follows .mixedOrders=true:=by kernel_rfl
def wt (m:bk):Prop:=m.guards.length<=14 /\ m.miles.length<=10 /\ m.stages.length<=10 /\ m.events.length<=10 /\ m.attrs.length<=10 /\ m.users.length<=10 /\ m.roles.length<=10 /\ m.sods.length<=10 /\ m.order.length<=40 /\ m.inits.length<=10
structure ur (m:bk):Prop where
 sizes:wt m
 guards:∀ g ∈ m.guards,g.cond.length<=80
 miles:∀ g ∈ m.miles,g.cond.length<=80
 events:∀ g ∈ m.events,g.sets.length<=10
theorem FK (m:bk):dt Tryz.prog 17 [.agg (aW m)] fun R=>∃ b,R=val (.bool b) /\ (b=false -> ur m):=by
 refine bm ag Tryz.func17 rfl (by decide) Tryz.ntmps17 Tryz.results17 rfl ?_
 repeat' first|refine go ?_|decide|refine sp ?_ ?_<;>intro _
 all_goals first|with_reducible exact cI ⟨true,rfl,fun h=>by cases h⟩|skip
 have hS:wt m:=by simp_all [wt];omega
 obtain ⟨h1,h2,h3,h4,h5,h6,h7,h8,h9,h10⟩:=id hS;refine af (fun st=>∃ k:Nat,k<=m.guards.length /\ (∀ i (h:i<m.guards.length),i<k -> m.guards[i].cond.length<=80) /\ st=⟨109,[(1,.op 0 0 0),(3,eI (k:Int))],[(0,some (.box 32 (aW m)))],1⟩) (fun st=>m.guards.length - ax st 3) ⟨_,wC,0,Vg _,?_,rfl⟩ ?_
 .exact fun i h h2=>absurd h2 (by omega)
 rintro _ ⟨k,hk,hg,rfl⟩;by_cases hlt:k<m.guards.length
 .repeat' first|refine go ?_|simp only [ab,hlt]|decide|refine sp ?_ ?_<;>intro _
  .with_reducible exact cI ⟨true,rfl,fun h=>by cases h⟩
  .rename_i hc;refine rI wC ⟨k+1,by omega,fun i h h2=>?_,rfl⟩;rcases Vv i k with h3|h3
   .exact hg i h h3
   .obtain rfl:i=k:=by omega
    simp at hc;omega
 repeat' first|decide|refine go ?_|simp only [ab,hlt]
 refine af (fun st=>∃ q:Nat,q<=m.miles.length /\ (∀ i (h:i<m.miles.length),i<q -> m.miles[i].cond.length<=80) /\ st=⟨109,[(1,.op 0 0 0),(4,eI (q:Int))],[(0,some (.box 32 (aW m)))],1⟩) (fun st=>m.miles.length - ax st 4) ⟨_,wC,0,Vg _,?_,rfl⟩ ?_
 .exact fun i h h2=>absurd h2 (by omega)
 rintro _ ⟨q,hq,hm,rfl⟩;by_cases hlt2:q<m.miles.length
 .repeat' first|refine go ?_|simp only [ab,hlt2]|decide|refine sp ?_ ?_<;>intro _
  .with_reducible exact cI ⟨true,rfl,fun h=>by cases h⟩
  .rename_i hc;refine rI wC ⟨q+1,by omega,fun i h h2=>?_,rfl⟩;rcases Vv i q with h3|h3
   .exact hm i h h3
   .obtain rfl:i=q:=by omega
    simp at hc;omega
 repeat' first|decide|refine go ?_|simp only [ab,hlt2]
 refine af (fun st=>∃ r:Nat,r<=m.events.length /\ (∀ i (h:i<m.events.length),i<r -> m.events[i].sets.length<=10) /\ st=⟨109,[(1,.op 0 0 0),(5,eI (r:Int))],[(0,some (.box 32 (aW m)))],1⟩) (fun st=>m.events.length - ax st 5) ⟨_,wC,0,Vg _,?_,rfl⟩ ?_
 .exact fun i h h2=>absurd h2 (by omega)
 rintro _ ⟨r,hr,he,rfl⟩;by_cases hlt3:r<m.events.length
 .repeat' first|refine go ?_|simp only [ab,hlt3]|decide|refine sp ?_ ?_<;>intro _
  .with_reducible exact cI ⟨true,rfl,fun h=>by cases h⟩
  .rename_i hc;refine rI wC ⟨r+1,by omega,fun i h h2=>?_,rfl⟩;rcases Vv i r with h3|h3
   .exact he i h h3
   .obtain rfl:i=r:=by omega
    simp at hc;omega
 repeat' first|decide|refine go ?_|simp only [ab,hlt3]
 refine cI ⟨false,rfl,fun _=>⟨hS,fun g hg'=>?_,fun g hg'=>?_,fun g hg'=>?_⟩⟩
 .obtain ⟨i,hi,rfl⟩:=VB hg';exact hg i hi (by omega)
 .obtain ⟨i,hi,rfl⟩:=VB hg';exact hm i hi (by omega)
 .obtain ⟨i,hi,rfl⟩:=VB hg';exact he i hi (by omega)
def eE (n most:Int):Bool:=decide (0<=n) && decide (n<most)
theorem uw (n most:Int):aw Tryz.prog 63 [eI n,eI most] (val (.bool (eE n most))):=by
 refine aa ag Tryz.func63 rfl (by decide) Tryz.ntmps63 Tryz.results63 rfl (aL _) ?_
 repeat' first|decide|refine go ?_
 unfold eE
 with_reducible refine uU (fun h=>?_) (fun h=>?_)<;>simp -implicitDefEqProofs (maxSteps:=5000000) only [t5,↓reduceIte,reduceCtorEq,Nat.reduceLT,Nat.reduceEqDiff,Nat.reduceAdd,Nat.reduceMul,Nat.reduceSub,Nat.reduceLeDiff,Nat.reduceBEq]<;>simp at h<;>simp [h]<;>omega
theorem S5 (m:bk) (l:List Int) (hl:l.length<=1000000) (b:Bool) (hb:b=true ↔ ∀ i (h:i<l.length),eE l[i] m.attrs.length=true /\ ∀ j (h:j<i),l[j] ≠ l[i]):aw Tryz.prog 64 [.agg (aW m),sI l] (val (.bool b)):=by
 refine aa ag Tryz.func64 rfl (by decide) Tryz.ntmps64 Tryz.results64 rfl (aL _) ?_
 repeat' first|decide|refine go ?_
 refine af (fun st=>∃ k:Nat,k<=l.length /\ (∀ i (h:i<l.length),i<k -> eE l[i] m.attrs.length=true /\ ∀ j (h:j<i),l[j] ≠ l[i]) /\ st=⟨36,[(1,sI l),(2,.op 0 0 0),(5,eI k)],[(0,some (.box 32 (aW m)))],1⟩) (fun st=>l.length - ax st 5)
  ⟨_,wC,0,Vg _,fun i h1 h2=>absurd h2 (by omega),rfl⟩ ?_
 rintro _ ⟨k,hk,hI,rfl⟩;by_cases hlt:k<l.length
 .repeat' first|decide|refine go ?_|simp only [ab,hlt]
  refine aA (by kernel_rfl) ?_
  repeat' first|decide|refine go ?_|simp only [ab,hlt]
  refine aP (uw _ _) ?_
  repeat' first|decide|refine go ?_|simp only [ab,hlt]
  with_reducible refine ka (fun hin=>?_) (fun hin=>?_)<;>simp -implicitDefEqProofs (maxSteps:=5000000) only [t5,↓reduceIte,reduceCtorEq,Nat.reduceLT,Nat.reduceEqDiff,Nat.reduceAdd,Nat.reduceMul,Nat.reduceSub,Nat.reduceLeDiff,Nat.reduceBEq,ab,hlt]
  .simp at hin;symm;rw [Wi];intro hbt;have:=(hb.1 hbt k hlt).1;rw [hin] at this;cases this
  .simp at hin
   refine af (fun st=>∃ q:Nat,q<=k /\ (∀ j (h:j<k),j<q -> l[j] ≠ l[k]) /\ st=⟨36,[(1,sI l),(2,.op 0 0 0),(5,eI k),(6,eI q)],[(0,some (.box 32 (aW m)))],1⟩) (fun st=>k - ax st 6)
    ⟨_,wC,0,Vg _,fun i h1 h2=>absurd h2 (by omega),rfl⟩ ?_
   rintro _ ⟨q,hq,hJ,rfl⟩;by_cases hqk:q<k
   .have hql:q<l.length:=by omega
    repeat' first|decide|refine go ?_|simp only [ab,hlt,hqk,hql]
    refine aA (by kernel_rfl) ?_
    repeat' first|decide|refine go ?_|simp only [ab,hlt,hqk,hql]
    with_reducible refine ka (fun he=>?_) (fun he=>?_)<;>simp -implicitDefEqProofs (maxSteps:=5000000) only [t5,↓reduceIte,reduceCtorEq,Nat.reduceLT,Nat.reduceEqDiff,Nat.reduceAdd,Nat.reduceMul,Nat.reduceSub,Nat.reduceLeDiff,Nat.reduceBEq,ab,hlt,hqk,hql]
    .symm;rw [Wi];intro hbt;exact (hb.1 hbt k hlt).2 q hqk (by simpa using he)
    .refine cU wC ⟨q+1,by omega,fun j h1 h2=>?_,rfl⟩ ?_
     .simp at he;rcases Vv j q with h3|h3
      .exact hJ j h1 h3
      .obtain rfl:j=q:=by omega
       exact he
     .exact (by simp only [ax,jn,aj.get,bh,aj.put,↓reduceIte,reduceCtorEq,Nat.reduceLT,Nat.reduceEqDiff,Nat.reduceAdd,Nat.reduceLeDiff,eq_self,implies_true];omega)
   .repeat' first|decide|refine go ?_|simp only [ab,hlt,hqk]
    refine cU wC ⟨k+1,by omega,fun j h1 h2=>?_,rfl⟩ ?_
    .rcases Vv j k with h3 | h3
     .exact hI j h1 h3
     .obtain rfl:j=k:=by omega
      exact ⟨hin,fun i hi=>hJ i hi (by omega)⟩
    .exact (by simp only [ax,jn,aj.get,bh,aj.put,↓reduceIte,reduceCtorEq,Nat.reduceLT,Nat.reduceEqDiff,Nat.reduceAdd,Nat.reduceLeDiff,eq_self,implies_true];omega)
 .repeat' first|decide|refine go ?_|simp only [ab,hlt]
  symm;exact hb.2 fun i h=>hI i h (by omega)
theorem yo (a b:List Int) (ha:a.length<=1000000):aw Tryz.prog 126 [sI a,sI b] (val (.bool (decide (a=b)))):=by
 refine aa ag Tryz.func126 rfl (by decide) Tryz.ntmps126 Tryz.results126 rfl (aL _) ?_
 repeat' first|decide|refine go ?_
 with_reducible refine ka (fun he=>?_) (fun he=>?_)<;>simp -implicitDefEqProofs (maxSteps:=5000000) only [t5,↓reduceIte,reduceCtorEq,Nat.reduceLT,Nat.reduceEqDiff,Nat.reduceAdd,Nat.reduceMul,Nat.reduceSub,Nat.reduceLeDiff,Nat.reduceBEq]
 .symm;rw [Vx];rintro rfl;simp at he
 have hl:a.length=b.length:=by simp at he;omega
 refine af (fun st=>∃ k:Nat,k<=a.length /\ (∀ i (h:i<a.length) (h2:i<b.length),i<k -> a[i]=b[i]) /\ st=⟨26,[(0,sI a),(1,sI b),(5,eI (k:Int))],[],0⟩) (fun st=>a.length - ax st 5) ⟨_,wC,0,Vg _,?_,rfl⟩ ?_
 .exact fun i h h2 h3=>absurd h3 (by omega)
 rintro _ ⟨k,hk,hI,rfl⟩;by_cases hlt:k<a.length
 .have hlt2:k<b.length:=by omega
  repeat' first|decide|refine go ?_|simp only [ab,hlt,hlt2]
  refine aA (by kernel_rfl) ?_
  repeat' first|decide|refine go ?_|simp only [ab,hlt,hlt2]
  with_reducible refine ka (fun hn=>?_) (fun hn=>?_)<;>simp -implicitDefEqProofs (maxSteps:=5000000) only [t5,↓reduceIte,reduceCtorEq,Nat.reduceLT,Nat.reduceEqDiff,Nat.reduceAdd,Nat.reduceMul,Nat.reduceSub,Nat.reduceLeDiff,Nat.reduceBEq,ab,hlt,hlt2]
  .symm;rw [Vx];rintro rfl;simp at hn
  .refine rI wC ⟨k+1,by omega,fun i h h2 h3=>?_,rfl⟩;rcases Vv i k with h4|h4
   .exact hI i h h2 h4
   .obtain rfl:i=k:=by omega
    simpa using hn
 .repeat' first|decide|refine go ?_|simp only [ab,hlt]
  symm;rw [decide_eq_true_iff];exact Xw hl fun i h1 h2=>hI i h1 h2 (by omega)
end
section
theorem uH:∀ (n:Nat) (l:List Int),l.Nodup -> (∀ x ∈ l,0<=x /\ x<(n:Int)) -> l.length<=n:=by
 intro n
 induction n with
 | zero=>
  intro l _ h
  cases l with
  | nil=>simp
  | cons x l=>have:=h x (by simp);omega
 | succ n ih=>
  intro l hn h;by_cases hm:(n:Int) ∈ l
  .have h1:=ih (l.erase (n:Int)) (hn.erase _) (fun x hx=>by
    have:=(hn.mem_erase_iff).1 hx;have:=h x this.2;omega)
   rw [List.length_erase_of_mem hm] at h1;omega
  .have:=ih l hn (fun x hx=>by
    have h2:=h x hx;have:x ≠ (n:Int):=fun e=>hm (e ▸ hx);omega)
   omega
def iJ (l:List Int) (i:Int):Prop:=0<=i /\ i<(l.length:Int)
instance (l:List Int) (i:Int):Decidable (iJ l i):=by unfold iJ;infer_instance
def rY (l:List Int) (i:Int):Int:=if iJ l i then i else -1
def mG (l:List Int) (i:Int):Int:=if iJ l i then rY l (l.getD i.toNat 0) else -1
def iy (l:List Int) (i:Int):Nat -> Int
 | 0=>rY l i
 | k+1=>mG l (iy l i k)
def KA (l:List Int) (i:Int):Nat -> Int -> List Int -> List Int
 | 0,_,out=>out
 | f+1,p,out=>if mG l p = -1 \/ mG l p=i \/ mG l p ∈ out then out else KA l i f (mG l p) (out ++ [mG l p])
def fG (l:List Int) (i:Int):List Int:=KA l i l.length i []
theorem je (l:List Int) (i:Int):(iJ l i /\ rY l i=i) \/ (¬ iJ l i /\ rY l i = -1):=by
 unfold rY;split<;>simp [*]
theorem Mg (l:List Int) (i:Int):rY l i = -1 \/ iJ l (rY l i):=by
 rcases je l i with ⟨h,e⟩|⟨_,e⟩<;>rw [e]
 .exact .inr h
 .exact .inl rfl
theorem Q0 (l:List Int) (i:Int):mG l i = -1 \/ iJ l (mG l i):=by
 unfold mG;split
 .exact Mg _ _
 .exact .inl rfl
theorem z8 (l:List Int) (i:Int):mG l (rY l i)=mG l i:=by
 rcases je l i with ⟨h,e⟩|⟨h,e⟩
 .rw [e]
 .rw [e];unfold mG;rw [Vh h,Vh (by simp [iJ])]
theorem tc (l:List Int):mG l (-1) = -1:=by unfold mG;rw [Vh (by simp [iJ])]
theorem yd (l:List Int) (i:Int) (k:Nat) (h:iy l i k = -1):∀ d,iy l i (k+d) = -1
 | 0=>h
 | d+1=>by rw [<- Wx,iy,yd l i k h d,tc]
theorem w9 (l:List Int) (i:Int):iy l i 1=mG l i:=z8 l i
structure pm (l:List Int) (i:Int) (m:Nat) (p:Int) (out:List Int):Prop where
 len:out.length=m
 eq:∀ j,j<m -> out[j]? = some (iy l i (j+1))
 cur:mG l p=iy l i (m+1)
 nodup:out.Nodup
 at_:∀ x ∈ out,iJ l x
 not:i ∉ out
 room:m<=l.length
 rest:KA l i (l.length - m) p out=fG l i
theorem pm.start (l:List Int) (i:Int):pm l i 0 i []:=
 ⟨rfl,fun j h=>by omega,(w9 l i).symm,List.nodup_nil,fun x h=>by simp at h,by simp,by omega,rfl⟩
def oP (l:List Int) (i:Int) (p:Int) (out:List Int):Prop:=mG l p = -1 \/ mG l p=i \/ mG l p ∈ out
instance (l:List Int) (i p:Int) (out:List Int):Decidable (oP l i p out):=by unfold oP;infer_instance
theorem pm.stop {l:List Int} {i:Int} {m:Nat} {p:Int} {out:List Int} (h:pm l i m p out) (hs:oP l i p out):out=fG l i:=by
 rw [<- h.rest]
 cases l.length - m with
 | zero=>rfl
 | succ f=>rw [KA];exact (Vn hs).symm
theorem pm.next {l:List Int} {i:Int} {m:Nat} {p:Int} {out:List Int} (h:pm l i m p out) (hs:¬ oP l i p out):pm l i (m+1) (mG l p) (out ++ [mG l p]) /\ m+1<=l.length:=by
 unfold oP at hs;simp only [not_or] at hs;have hat:iJ l (mG l p):=(Q0 l p).resolve_left hs.1
 have hnd:(out ++ [mG l p]).Nodup:=by
  rw [Xp];refine ⟨h.nodup,by simp,fun a ha b hb e=>?_⟩;simp at hb;subst hb;subst e;exact hs.2.2 ha
 have hall:∀ x ∈ out ++ [mG l p],iJ l x:=by
  intro x hx;rcases Vp.1 hx with hx|hx
  .exact h.at_ x hx
  .simp at hx;subst hx;exact hat
 have hlen:m+1<=l.length:=by
  have:=uH l.length _ hnd hall;simp [h.len] at this;exact this
 refine ⟨⟨by simp [h.len],fun j hj=>?_,by rw [show iy l i (m+1+1)=mG l (iy l i (m+1)) from rfl,h.cur],hnd,hall,?_,hlen,?_⟩,hlen⟩
 .by_cases hjm:j<m
  .rw [VM (by rw [h.len];exact hjm)];exact h.eq j hjm
  .have:j=m:=by omega
   subst this;rw [VO (by rw [h.len];omega),h.len,Nat.sub_self];simp [h.cur]
 .intro hi;rcases Vp.1 hi with hi|hi
  .exact h.not hi
  .simp at hi;exact hs.2.1 hi.symm
 .have:=h.rest;rw [show l.length - m=(l.length - (m+1))+1 from by omega,KA,Vh (by simp only [not_or];exact hs)] at this;exact this
theorem Bd (l:List Int) (i:Int):∃ m p,pm l i m p (fG l i) /\ oP l i p (fG l i):=by
 have key:∀ (f m:Nat) (p:Int) (out:List Int),pm l i m p out -> l.length+1 - m<=f -> ∃ m p,pm l i m p (fG l i) /\ oP l i p (fG l i):=by
  intro f
  induction f with
  | zero=>intro m p out h hf;have:=h.room;omega
  | succ f ih=>
   intro m p out h hf;by_cases hs:oP l i p out
   .have e:=h.stop hs;rw [e] at h hs;exact ⟨m,p,h,hs⟩
   .have:=(h.next hs).1;exact ih _ _ _ this (by omega)
 exact key _ 0 i [] (pm.start l i) (Os _)
def pi (l:List Int) (i:Int):Prop:=iJ l i /\ mG l (((fG l i).getLast?).getD i)=i
instance (l:List Int) (i:Int):Decidable (pi l i):=by unfold pi;infer_instance
theorem Lb {l:List Int} {i:Int} {m:Nat} {p:Int} {out:List Int} (h:pm l i m p out):mG l ((out.getLast?).getD i)=iy l i (m+1):=by
 cases m with
 | zero=>
  have:out=[]:=WI h.len;subst this;exact (w9 l i).symm
 | succ m=>
  have h1:=h.eq m (by omega);rw [List.getLast?_eq_getElem?,h.len,WB,h1];rfl
theorem KS {l:List Int} {i:Int} {m:Nat} {p:Int} (h:pm l i m p (fG l i)) (hs:oP l i p (fG l i)) (hc:iy l i (m+1) ≠ i \/ i = -1):∀ j,iy l i (j+1) = -1 \/ iy l i (j+1) ∈ fG l i:=by
 have hst:iy l i (m+1) = -1 \/ iy l i (m+1) ∈ fG l i:=by
  rw [<- h.cur];rcases hs with hs|hs|hs
  .exact .inl hs
  .rw [h.cur] at hs;rcases hc with hc|hc
   .exact absurd hs hc
   .rw [h.cur,hs,hc];exact .inl rfl
  .exact .inr hs
 intro j
 induction j with
 | zero=>
  cases m with
  | zero=>exact hst
  | succ m=>exact .inr (p0 (h.eq 0 (by omega)))
 | succ j ih=>
  rcases ih with ih|ih
  .left;rw [iy,ih,tc]
  .obtain ⟨a,ha⟩:=List.mem_iff_getElem?.1 ih;have ham:a<m:=by rw [<- h.len];exact (Vd.1 ha).1
   rw [h.eq a ham] at ha
   have e:iy l i (j+1+1)=iy l i (a+1+1):=by
    show mG l (iy l i (j+1))=mG l (iy l i (a+1));rw [WE ha]
   rw [e];by_cases ham2:a+1<m
   .exact .inr (p0 (h.eq (a+1) ham2))
   .have:a+1=m:=by omega
    rw [this];exact hst
theorem wK {l:List Int} {i:Int} {x:Int} (hx:x ∈ fG l i):∃ j,1<=j /\ j<=l.length /\ iy l i j=x:=by
 obtain ⟨m,p,h,_⟩:=Bd l i;obtain ⟨a,ha⟩:=List.mem_iff_getElem?.1 hx;have ham:a<m:=by rw [<- h.len];exact (Vd.1 ha).1
 rw [h.eq a ham] at ha;exact ⟨a+1,by omega,by have:=h.room;omega,WE ha⟩
theorem vE (l:List Int) (i x:Int) (hx:0<=x) (hne:i ≠ x):x ∈ fG l i ↔ ∃ j,1<=j /\ j<=l.length /\ iy l i j=x:=by
 refine ⟨wK,fun ⟨j,h1,h2,h3⟩=>?_⟩;obtain ⟨m,p,h,hs⟩:=Bd l i;by_cases hc:iy l i (m+1)=i
 .
  have key:∀ j,iy l i (j+1) ∈ fG l i \/ iy l i (j+1)=i \/ iy l i (j+1) = -1:=by
   intro j
   induction j with
   | zero=>
    cases m with
    | zero=>exact .inr (.inl hc)
    | succ m=>exact .inl (p0 (h.eq 0 (by omega)))
   | succ j ih=>
    rcases ih with ih|ih|ih
    .obtain ⟨a,ha⟩:=List.mem_iff_getElem?.1 ih;have ham:a<m:=by rw [<- h.len];exact (Vd.1 ha).1
     rw [h.eq a ham] at ha
     have e:iy l i (j+1+1)=iy l i (a+1+1):=by
      show mG l (iy l i (j+1))=mG l (iy l i (a+1));rw [WE ha]
     rw [e];by_cases ham2:a+1<m
     .exact .inl (p0 (h.eq (a+1) ham2))
     .have:a+1=m:=by omega
      rw [this];exact .inr (.inl hc)
    .have e:iy l i (j+1+1)=iy l i 1:=by
      show mG l (iy l i (j+1))=iy l i 1;rw [ih,w9]
     rw [e]
     cases m with
     | zero=>exact .inr (.inl hc)
     | succ m=>exact .inl (p0 (h.eq 0 (by omega)))
    .right;right;rw [iy,ih,tc]
  have:=key (j - 1);rw [show j - 1+1=j from by omega,h3] at this;rcases this with this|this|this
  .exact this
  .exact absurd this.symm hne
  .omega
 .have:=KS h hs (.inl hc) (j - 1);rw [show j - 1+1=j from by omega,h3] at this;rcases this with this|this
  .omega
  .exact this
theorem Kb (l:List Int) (i:Int) (hi:iJ l i):pi l i ↔ ∃ j,1<=j /\ j<=l.length /\ iy l i j=i:=by
 obtain ⟨m,p,h,hs⟩:=Bd l i;unfold pi;rw [Lb h];refine ⟨fun hh=>⟨m+1,by omega,?_,hh.2⟩,fun ⟨j,h1,h2,h3⟩=>⟨hi,?_⟩⟩
 .have hnd:(i :: fG l i).Nodup:=List.nodup_cons.2 ⟨h.not,h.nodup⟩
  have:=uH l.length _ hnd (fun x hx=>by
   rcases V8.1 hx with rfl|hx
   .exact hi
   .exact h.at_ x hx)
  simp [h.len] at this;omega
 .by_cases hc:iy l i (m+1)=i
  .exact hc
  .have:=KS h hs (.inl hc) (j - 1);rw [show j - 1+1=j from by omega,h3] at this;rcases this with this|this
   .have:=hi.1;omega
   .exact absurd this h.not
def kH (l:List Int):Int:=(((List.range l.length).find? fun (i:Nat)=>decide (pi l (i:Int))).map fun (i:Nat)=>(i:Int)).getD (-1)
def wn (l:List Int) (i:Int):List Int:=if iJ l i then (((List.range l.length).filter fun (k:Nat)=>decide ((k:Int) ≠ i /\ i ∈ fG l (k:Int))).map fun (k:Nat)=>(k:Int)) else []
def Nu (l:List Int) (a i:Int):Prop:=∃ j,1<=j /\ j<=l.length /\ 0<=a /\ iy l i j=a
end
section
open Go.ChangeShapes Go.WideShapes Go.ChangeAt Go.RowKit
theorem Qq:ownKnob Tryz.prog.godebug=none:=by kernel_rfl
theorem Oc:laidOutB Tryz.prog=true:=by kernel_rfl
theorem Mh:Tryz.prog.underlying 4=some .bool:=Tryz.underlying4
theorem mW {H:Type} {enc:TypeId × Value -> H} {P:Program} (hl:laidOutB P=true) {W W':World} (hb:Below W.heap.size W W') (sp:Nat -> Bool) :
  ∀ {ts:List TypeId} {vs:List Value} {ds:List (DataW H)} {ps:List MemPlace},(ts.all fun t=>P.readableRec t && decide (t<P.types.size))=true ->
   DataW.TrodAll enc P W 0 (fun _=>true) true ts vs ds ps -> (∀ x ∈ ps,x.block<W.heap.size) -> (∀ p ∈ ps,sp p.block=true) -> DataW.TrodAll enc P W' 0 sp true ts vs ds ps
 | [],[],[],_,_,h,_,_=>h
 | t :: ts,v :: vs,d :: ds,ps,ht,h,hlt,hs=>by
  obtain ⟨p,q,h1,h2,rfl⟩:=h;simp only [List.all_cons,Vw,VG] at ht;refine ⟨p,q,WideElems.Trod_stays hl ht.1.1 ht.1.2 h1 (fun x hx=>hb.same (hlt x (Vp.2 (.inl hx)))) (fun x hx=>hs x (Vp.2 (.inl hx))),?_,rfl⟩;exact mW hl hb sp (by simpa using ht.2) h2 (fun x hx=>hlt x (Vp.2 (.inr hx))) (fun x hx=>hs x (Vp.2 (.inr hx)))
 | [],[],_ :: _,_,_,h,_,_=>h.elim
 | [],_ :: _,_,_,_,h,_,_=>h.elim
 | _ :: _,[],_,_,_,h,_,_=>h.elim
 | _ :: _,_ :: _,[],_,_,h,_,_=>h.elim
theorem F9 {H:Type} {enc:TypeId × Value -> H} {f:Func} {s:ChangeSpec} {fid:FuncId} {W:World} {args:Array Value} {ds gs:List (DataW H)} {before:List MemPlace}
  (hts:(f.params.toList.all fun t=>Tryz.prog.readableRec t && decide (t<Tryz.prog.types.size))=true) (hrt:f.resultTypes = #[4]) (hsv:s.vars=[])
  (hW:DataW.Whole enc Tryz.prog f.params.toList s.vars false W args.toList ds gs before)
  (hfn:∀ gs',gs'=[] -> s.fn H (ds ++ gs')={ results:=[.lit (.bool true)],args:=ds })
  (hc:Calls Tryz.prog fid args W fun e W'=>e=.returned (.bool true) /\ Below W.heap.size W W') :
  Calls Tryz.prog fid args W fun e W'=>∃ v,e=.returned v /\ s.post enc Tryz.prog f false true false false W args v W':=by
 refine hc.mono fun e W' ⟨he,hb⟩=>⟨_,he,?_⟩;have hW':=hW;obtain ⟨p,q,hA,hV,rfl,hfz,hnd⟩:=hW;rw [hsv] at hV;obtain ⟨rfl,rfl⟩:=trodVars_none hV;have hlt:∀ x ∈ p,x.block<W.heap.size:=fun x hx=>hW'.lt x (Vp.2 (.inl hx));have e1:=hfn [] rfl;refine ⟨ds,[],p ++ [],[],p,[],hW',?_,?_,?_,hb.frame _,fun h=>by cases h⟩
 .rw [e1,hrt];exact trodAll_mk1 (shut_bool Mh true)
 .rw [e1];exact mW Oc hb _ hts hA hlt (fun x hx=>by simpa using hlt x hx)
 .rw [e1,hsv];rfl
end
section
def RI (w:World) (v:Value) (l:List Int):Prop:=(aF (eh .i64)).one w (fun b=>b<w.heap.size) v l
theorem RI.below {w w':World} {v:Value} {l:List Int} (h:RI w v l) (hb:Below w.heap.size w w'):RI w' v l:=dg (dx h hb fun b h=>h) fun b h=>Vm h hb.size
theorem RI.form {w:World} {v:Value} {l:List Int} (h:RI w v l):∃ A c,v=.slice A l.length c /\ l.length<=c:=by
 obtain ⟨A,c,h1,h2,_⟩:=cB h;exact ⟨A,c,h1,h2⟩
theorem RI.at_ {w:World} {A:Option Addr} {n c:Nat} {l:List Int} (h:RI w (.slice A n c) l) {k:Nat} (hk:k<l.length) :
  ∃ b o,A=some ⟨b,o,none⟩ /\ w.cell? ⟨b,o+k,none⟩=some (.int .i64 (l.getD k 0)) /\ -9223372036854775808<=l.getD k 0 /\ l.getD k 0<=9223372036854775807:=by
 obtain ⟨b,o,rfl,hb,_⟩:=db h (by omega);have:=NJ h hk;rw [List.getD,f4 hk];exact ⟨b,o,rfl,this⟩
theorem RI.own {w:World} {base:Nat} {v:Value} {n:Nat} {l:List Int} (h:w.ownsRow base 3 1 v n (l.map (Value.int .i64))) (hx:∀ x ∈ l,-9223372036854775808<=x /\ x<=9223372036854775807):RI w v l:=
 dg (nI (r:=eh .i64) _ h rfl fun a ha=>⟨rfl,pD (hx a ha).1 (hx a ha).2⟩) fun b h=>h.2
theorem Oe:(Tryz.prog.info? 3).map (fun i=>(i.zero,i.size,i.bytes))=some (some (.int .i64 0),1,8):=by kernel_rfl
theorem MK (w:World) (n:Int) (t:TypeId):∀ j u,[Value.int .i64 n][j]? = some u -> (w.alloc (.cells #[.int .i64 n] t)).cell? ((⟨w.heap.size,0,none⟩:Addr).add j)=some u:=mf w [.int .i64 n] t
theorem MM (n:Int):∀ u ∈ [Value.int .i64 n],u.oneCell'=true:=by intro u hu;simp at hu;subst hu;rfl
def U4:Value -> Nat | .slice _ n _=>n | _=>0
end
section
theorem xU {w:World} {S:Nat -> Prop} {v:Value} {l:List Int} (h:RT w S v (sI l)) (hS:Es w S) (hl:∀ x ∈ l,aI x):RI w v l:=by
 obtain ⟨A,cap,rfl,hc,hm,_,hA⟩:=h.sl_inv;refine ⟨A,cap,by simp,by simpa using hc,hm,fun h0=>?_⟩;obtain ⟨b,o,rfl,hb,U,hcell,hr,_⟩:=hA (by simpa using h0);refine ⟨b,o,rfl,hS b hb,fun i hi=>⟨[.int .i64 l[i]],fun j u hu=>?_,rfl,?_⟩⟩
 .have h1:(l.map fun n=>[eI n])[i]? = some [eI l[i]]:=by simp [hi]
  have h2:=hcell i 0 _ _ h1 rfl;have h3:=Gj (hr i 0 _ _ h1 rfl)
  cases j with
  | zero=>
   simp at hu;subst hu;rw [h3] at h2;simpa [eh] using h2
  | succ j=>simp at hu
 .have:=hl _ (Vf hi);exact pD this.1 this.2
theorem zl {vs:Array Value} (h:vs.size=2):∃ a b,vs = #[a,b]:=⟨vs[0],vs[1],by apply Array.ext (by simpa using h);intro i h1 h2;simp at h2;match i with | 0=>rfl | 1=>rfl⟩
theorem aX {r av:AV} {st:aj} (h:r.ren []=av):fe ⟨r,[],0⟩ st av:=⟨[],List.nodup_nil,h,trivial⟩
theorem Ax {l:List (Bool × Int)}:∀ row ∈ l.map ya,∀ av ∈ row,av.plain:=fun row hr av ha=>by
 obtain ⟨n,_,rfl⟩:=Vt.1 hr;simp at ha;rcases ha with rfl|rfl<;>trivial
theorem LK : (Tryz.prog.fieldsOf 151).toList.map (fun f => (f.name, f.type, f.offset)) = [("Mile", 4, 0), ("N", 3, 1)] := by kernel_rfl
theorem GK (op:BinOp) (hop:op=.eql \/ op=.neq) (a b:Bool × Int):tA Tryz.prog op 151 (.agg #[.bool a.1,.int .i64 a.2]) (.agg #[.bool b.1,.int .i64 b.2]) (.bool (if op matches .eql then (a.1 == b.1 && a.2 == b.2) else !(a.1 == b.1 && a.2 == b.2))):=by
 have ht:=LK
 obtain ⟨f,g,hfs⟩:∃ f g,(Tryz.prog.fieldsOf 151).toList=[f,g]:=by
  generalize (Tryz.prog.fieldsOf 151).toList=l at ht ⊢
  cases l with
  | nil=>simp at ht
  | cons f l=>cases l with
   | nil=>simp at ht
   | cons g l=>cases l with
    | nil=>exact ⟨f,g,rfl⟩
    | cons h l=>simp at ht
 rw [hfs] at ht;simp only [VY,VP,List.cons.injEq,Prod.mk.injEq,and_true] at ht;obtain ⟨⟨h1,h2,h3⟩,h4,h5,h6⟩:=ht;refine uZ [(.bool a.1,.bool b.1),(.int .i64 a.2,.int .i64 b.2)] (by kernel_rfl) (by kernel_rfl) (by kernel_rfl) (by rw [hfs];rfl) (fun k f' p hk hp=>?_) (by simp [my,sj]) hop;rw [hfs] at hk
 match k,hk,hp with
 | 0,hk,hp=>
  cases hk;cases hp;refine ⟨by rw [h1];decide,?_,by rw [h3];rfl,by rw [h3];rfl⟩;rw [h2]
  kernel_rfl
 | 1,hk,hp=>
  cases hk;cases hp;refine ⟨by rw [h4];decide,?_,by rw [h6];rfl,by rw [h6];rfl⟩;rw [h5]
  kernel_rfl
 | k+2,hk,hp=>simp at hk
end
section
theorem ma (op:Int):aC op = -1 \/ aC op=0 \/ aC op=1 \/ aC op=2:=by
 unfold aC;split
 .exact .inr (.inl rfl)
 .split
  .exact .inr (.inr (.inl rfl))
  .split
   .exact .inr (.inr (.inr rfl))
   .exact .inl rfl
theorem mJ {d:Nat} {op:Int} {d':Nat}:bU d op=some d' ↔ 0<=aC op /\ aC op<=d /\ (d':Int)=d+1 - aC op:=by
 unfold bU;rcases ma op with h|h|h|h<;>simp only [h]
 .simp
 .simp;omega
 .by_cases h1:1<=d
  .simp [h1];omega
  .simp [h1];omega
 .by_cases h1:2<=d
  .simp [h1];omega
  .simp [h1];omega
theorem Su (a b:List Int):∀ d,aZ (a ++ b) d=(aZ a d).bind (aZ b):=by
 induction a with
 | nil=>intro d;rfl
 | cons x a ih=>intro d;rw [Wg,aZ,aZ];cases bU d x<;>simp [ih]
theorem xA (ops:List Int) {i:Nat} (h:i<ops.length):aZ (ops.take (i+1)) 0=(aZ (ops.take i) 0).bind fun d=>bU d ops[i]:=by
 rw [Xo,f4 h,Su]
 congr 1
 funext d
 simp [aZ];cases bU d ops[i]<;>rfl
theorem wJ {ops:List Int} {i d':Nat} (h:i<ops.length) (hr:aZ (ops.take (i+1)) 0=some d'):∃ d,aZ (ops.take i) 0=some d /\ 0<=aC ops[i] /\ aC ops[i]<=d /\ (d':Int)=d+1 - aC ops[i]:=by
 rw [xA ops h] at hr
 cases hd:aZ (ops.take i) 0 with
 | none=>simp [hd] at hr
 | some d=>
  simp [hd] at hr;exact ⟨d,rfl,mJ.1 hr⟩
def j5 (ops:List Int):Nat -> Int -> Int
 | 0,_=>-1
 | i+1,want=>if aC (ops.getD i 0)<0 then -1 else if want+(aC (ops.getD i 0) - 1)=0 then (i:Int) else j5 ops i (want+(aC (ops.getD i 0) - 1))
theorem xq {ops:List Int} {i:Nat} (h:i<ops.length):ops.getD i 0=ops[i]:=by simp [h]
theorem Ej {ops:List Int} {d e:Nat} (hd:1<=d):∀ (i:Nat) (want:Int) (di:Nat),i<=ops.length -> aZ (ops.take i) 0=some di -> (di:Int)=d - 1+want -> 1<=want -> (∀ j,i<=j -> j<=e -> ∃ dj,aZ (ops.take j) 0=some dj /\ d<=dj) ->
  ∃ b:Nat,b<i /\ j5 ops i want=b /\ aZ (ops.take b) 0=some (d - 1) /\ ∀ j,b<j -> j<=e -> ∃ dj,aZ (ops.take j) 0=some dj /\ d<=dj
 | 0,want,di,_,hr,hdi,hw,_=>by
  simp [aZ] at hr;omega
 | i+1,want,di,hi,hr,hdi,hw,hj=>by
  obtain ⟨d0,h0,h1,h2,h3⟩:=wJ (by omega) hr;rw [j5,xq (by omega:i<ops.length),Vh (by omega)];by_cases hz:want+(aC ops[i] - 1)=0
  .rw [Vn hz];refine ⟨i,by omega,rfl,by rw [h0];congr 1;omega,fun j h4 h5=>hj j (by omega) h5⟩
  .rw [Vh hz]
   obtain ⟨b,h4,h5,h6,h7⟩:=Ej (e:=e) hd i (want+(aC ops[i] - 1)) d0 (by omega) h0 (by omega) (by omega) fun j h4 h5=>by
    rcases Vv i j with h6|h6
    .exact hj j (by omega) h5
    .obtain rfl:i=j:=by omega
     exact ⟨d0,h0,by omega⟩
   exact ⟨b,by omega,h5,h6,h7⟩
theorem K0 {ops:List Int} {i d:Nat} (h:i<ops.length) (hr:aZ (ops.take (i+1)) 0=some d):1<=d:=by
 obtain ⟨d0,_,h1,h2,h3⟩:=wJ h hr;omega
theorem LD {ops:List Int} {e d:Nat} (he:e<ops.length) (hr:aZ (ops.take (e+1)) 0=some d) :
  ∃ b:Nat,b<=e /\ j5 ops (e+1) 1=b /\ aZ (ops.take b) 0=some (d - 1) /\ ∀ j,b<j -> j<=e+1 -> ∃ dj,aZ (ops.take j) 0=some dj /\ d<=dj:=by
 have hd:=K0 he hr
 obtain ⟨b,h1,h2⟩:=Ej (e:=e+1) hd (e+1) 1 d (by omega) hr (by omega) (by omega) fun j h1 h2=>by
  obtain rfl:j=e+1:=by omega
  exact ⟨d,hr,Os _⟩
 exact ⟨b,by omega,h2⟩
theorem Af (ops:List Int):∀ (i:Nat) (want:Int),i<=ops.length -> 1<=want -> j5 ops i want=0 -> aZ (ops.take i) 0=some want.toNat
 | 0,want,_,_,h=>by simp [j5] at h
 | i+1,want,hi,hw,h=>by
  have hlt:i<ops.length:=by omega
  rw [j5,xq hlt] at h;split at h
  .omega
  .rename_i h1;rw [xA ops hlt];split at h
   .rename_i h2;obtain rfl:i=0:=by omega
    have h3:aC ops[0]=0 /\ want=1:=by
     rcases ma ops[0] with h|h|h|h<;>omega
    rw [h3.2];simp only [VA,aZ,Wm];rw [mJ];omega
   .rename_i h2;rw [Af ops i _ (by omega) (by omega) h,Wm,mJ];omega
theorem Jk {ops:List Int} (h0:0<ops.length):j5 ops ops.length 1=0 ↔ aZ ops 0=some 1:=by
 constructor
 .intro h;have:=Af ops ops.length 1 (Os _) (by omega) h
  rwa [Vq] at this
 .intro h;have e1:ops.length - 1+1=ops.length:=by omega
  obtain ⟨b,h1,h2,h3,h4⟩:=LD (ops:=ops) (e:=ops.length - 1) (d:=1) (by omega) (by rw [e1,Vq];exact h);rw [e1] at h2;rw [h2]
  cases b with
  | zero=>rfl
  | succ b=>
   have:=K0 (by omega) h3;omega
section
variable {cm:ah -> Option Int} {o d:Int}
theorem Q3 (a b:List ah):∀ r,da cm o d (a ++ b) r=(da cm o d a r).bind (da cm o d b):=by
 induction a with
 | nil=>intro r;rfl
 | cons x a ih=>intro r;rw [Wg,da,da];cases dN cm o d x r<;>simp [ih]
theorem Dl (l:List ah) {i:Nat} (h:i<l.length):da cm o d (l.take (i+1)) []=(da cm o d (l.take i) []).bind (dN cm o d l[i]):=by
 rw [Xo,f4 h,Q3]
 congr 1
 funext r
 simp [da];cases dN cm o d l[i] r<;>rfl
theorem tg {x:ah} {r r':List Bool} (h:dN cm o d x r=some r'):∃ k:Nat,aC x.op=k /\ k<=r.length /\ ∃ v,r'=v :: r.drop k:=by
 unfold dN at h;split at h
 .rename_i h1;cases h;exact ⟨0,by unfold aC;rw [Vn (by omega)];rfl,by omega,_,rfl⟩
 .split at h
  .rename_i h1;split at h
   .cases h;exact ⟨0,by unfold aC;rw [Vn (by omega)];rfl,by omega,_,rfl⟩
   .cases h
  .split at h
   .rename_i h1;cases h;exact ⟨0,by unfold aC;rw [Vn (by omega)];rfl,by omega,_,rfl⟩
   .split at h
    .rename_i h1;cases h;exact ⟨0,by unfold aC;rw [Vn (by omega)];rfl,by omega,_,rfl⟩
    .split at h
     .rename_i h1;split at h
      .cases h;exact ⟨1,by unfold aC;rw [Vh (by omega),Vn (by omega)];rfl,by simp,_,rfl⟩
      .cases h
     .split at h
      .rename_i h1;split at h
       .cases h;exact ⟨2,by unfold aC;rw [Vh (by omega),Vh (by omega),Vn (by omega)];rfl,by simp,_,rfl⟩
       .cases h
      .cases h
theorem mI {l:List ah} {i:Nat} {r':List Bool} (h:i<l.length) (hr:da cm o d (l.take (i+1)) []=some r'):∃ r,da cm o d (l.take i) []=some r /\ dN cm o d l[i] r=some r':=by
 rw [Dl l h] at hr
 cases hd:da cm o d (l.take i) [] with
 | none=>simp [hd] at hr
 | some r=>
  simp [hd] at hr;exact ⟨r,rfl,hr⟩
theorem sg {l:List ah}:∀ {i:Nat} {r:List Bool},i<=l.length -> da cm o d (l.take i) []=some r -> aZ ((l.map ah.op).take i) 0=some r.length
 | 0,r,_,h=>by
  simp [da] at h;subst h;simp [aZ]
 | i+1,r,hi,h=>by
  obtain ⟨r0,h1,h2⟩:=mI (by omega) h;have h3:=sg (by omega) h1;obtain ⟨k,h4,h5,v,rfl⟩:=tg h2;rw [xA _ (by simp;omega),h3,Wm,mJ];simp [h4];omega
theorem Kd {l:List ah} {e:Nat} {v:Bool} {r:List Bool} (he:e<l.length) (h:da cm o d (l.take (e+1)) []=some (v :: r)) :
  ∃ b:Nat,b<=e /\ j5 (l.map ah.op) (e+1) 1=b /\ da cm o d (l.take b) []=some r:=by
 have hrow:=sg (by omega) h;obtain ⟨b,h1,h2,h3,h4⟩:=LD (by simpa using he) hrow;refine ⟨b,h1,h2,?_⟩
 have down:∀ k j,j+k=e+1 -> ∃ q,da cm o d (l.take j) []=some q:=by
  intro k
  induction k with
  | zero=>
   intro j hj;obtain rfl:j=e+1:=by omega
   exact ⟨_,h⟩
  | succ k ih=>
   intro j hj;obtain ⟨q,hq⟩:=ih (j+1) (by omega);obtain ⟨q0,hq0,_⟩:=mI (by omega) hq;exact ⟨q0,hq0⟩
 obtain ⟨q,hq⟩:=down (e+1 - b) b (by omega);have hql:=sg (by omega) hq;rw [h3] at hql;have hql:r.length=q.length:=by simpa using hql
 have up:∀ k,b+k<=e+1 -> ∃ t,da cm o d (l.take (b+k)) []=some (t ++ q):=by
  intro k
  induction k with
  | zero=>exact fun _=>⟨[],hq⟩
  | succ k ih=>
   intro hk;obtain ⟨t,ht⟩:=ih (by omega);obtain ⟨r1,hr1⟩:=down (e+1 - (b+k+1)) (b+k+1) (by omega);obtain ⟨r0,h5,h6⟩:=mI (by omega) hr1;rw [ht] at h5;cases h5;obtain ⟨c,h7,h8,v',rfl⟩:=tg h6;obtain ⟨dj,h9,h10⟩:=h4 (b+k+1) (by omega) (by omega);have h11:=sg (by omega) hr1;rw [h9] at h11;have h11:dj=(t ++ q).length - c+1:=(by simpa using h11);rw [Vi] at h11 h8;simp only [VI] at h10;refine ⟨v' :: t.drop c,?_⟩;rw [show b+(k+1)=b+k+1 by omega,hr1,List.drop_append_of_le_length (by omega)];rfl
 obtain ⟨t,ht⟩:=up (e+1 - b) (by omega);rw [show b+(e+1 - b)=e+1 by omega,h] at ht;have ht:=WE ht
 have htl:t.length=1:=by
  have:=congrArg List.length ht;simp at this;omega
 obtain ⟨v',rfl⟩:∃ v',t=[v']:=by
  match t,htl with
  | [v'],_=>exact ⟨v',rfl⟩
 rw [hq];simp at ht;rw [ht.2]
end
def iX (vals:List Int) (attrs:Bool) (x:ah):Bool:=
 !(decide (18<x.op) || (decide (10<x.op) && decide (x.op<15)) || (attrs && decide (3<=x.op) && decide (x.op<=8) && (!(decide (-1<=x.la) && decide (x.la<vals.length)) || !(decide (-1<=x.ra) && decide (x.ra<vals.length)))))
theorem zP (vals:List Int) (a n:Int):(tb vals a n).isSome=(decide (-1<=a) && decide (a<vals.length)):=by
 unfold tb;by_cases h1:a = -1
 .subst h1;simp;omega
 .rw [Vh h1];by_cases h2:a<0
  .rw [Vn h2];simp;omega
  .rw [Vh h2];rw [Wo];simp;omega
theorem yh (vals:List Int) (x:ah):(yb vals x).isSome=((decide (-1<=x.la) && decide (x.la<vals.length)) && (decide (-1<=x.ra) && decide (x.ra<vals.length))):=by
 rw [<- zP vals x.la x.ln,<- zP vals x.ra x.rn];unfold yb;cases tb vals x.la x.ln<;>cases tb vals x.ra x.rn<;>rfl
theorem MP {s:St} {x:ah} {r:List Bool} (h:iX s.vals true x=true) (h0:0<=aC x.op) (h1:aC x.op<=r.length):∃ r',dN (yb s.vals) s.opn s.don x r=some r':=by
 have hc:=yh s.vals x;unfold iX at h;simp only [Xq,Bool.or_eq_false_iff,VW,Vx,V4,Bool.not_eq_false'] at h;unfold dN;split
 .exact ⟨_,rfl⟩
 .split
  .rename_i h2 h3
   have:(yb s.vals x).isSome=true:=by
    rw [hc,Vw];rcases h.2 with h4|h4
    .rcases h4 with h4 | h4<;>simp at h4<;>omega
    .exact h4
   obtain ⟨c,hc⟩:=V3.1 this;rw [hc];exact ⟨_,rfl⟩
  .split
   .exact ⟨_,rfl⟩
   .split
    .exact ⟨_,rfl⟩
    .split
     .rename_i h6;have:aC x.op=1:=by unfold aC;rw [Vh (by omega),Vn (by omega)]
      cases r with
      | nil=>simp at h1;omega
      | cons a r=>exact ⟨_,rfl⟩
     .split
      .rename_i h6;have:aC x.op=2:=by unfold aC;rw [Vh (by omega),Vh (by omega),Vn (by omega)]
       match r with
       | []=>simp at h1;omega
       | [a]=>simp at h1;omega
       | b :: a :: r=>exact ⟨_,rfl⟩
      .rename_i h2 h3 h4 h5 h6 h7;exfalso;have h8:=h.1;unfold aC at h0;split at h0
       .rename_i h9;rcases h8 with ⟨h10,h11⟩;rcases h11 with h11|h11<;>omega
       .split at h0
        .omega
        .split at h0<;>omega
theorem Jr {s:St} {l:List ah} (hl:∀ x ∈ l,iX s.vals true x=true):∀ (i:Nat) (d:Nat),i<=l.length -> aZ ((l.map ah.op).take i) 0=some d -> ∃ r,da (yb s.vals) s.opn s.don (l.take i) []=some r /\ r.length=d
 | 0,d,_,h=>by
  simp [aZ] at h;exact ⟨[],by simp [da],h⟩
 | i+1,d,hi,h=>by
  have hlt:i<l.length:=by omega
  obtain ⟨d0,h0,h1,h2,h3⟩:=wJ (by simpa using hlt) h;obtain ⟨r,h4,h5⟩:=Jr hl i d0 (by omega) h0;simp only [List.getElem_map] at h1 h2 h3;obtain ⟨r',h6⟩:=MP (s:=s) (r:=r) (hl l[i] (Vf hlt)) h1 (by omega);have h7:da (yb s.vals) s.opn s.don (l.take (i+1)) []=some r':=by rw [Dl l hlt,h4,Wm,h6]
  have h8:=sg (by omega) h7;rw [h] at h8;exact ⟨r',h7,(WE h8).symm⟩
theorem CL {s:St} {l:List ah} {r:List Bool} (h:da (yb s.vals) s.opn s.don l []=some r):∀ x ∈ l,iX s.vals true x=true:=by
 intro x hx;obtain ⟨i,hi,rfl⟩:=VB hx
 have down:∀ k j,j+k=l.length -> ∃ q,da (yb s.vals) s.opn s.don (l.take j) []=some q:=by
  intro k
  induction k with
  | zero=>
   intro j hj;obtain rfl:j=l.length:=by omega
   exact ⟨r,by rw [Vq];exact h⟩
  | succ k ih=>
   intro j hj;obtain ⟨q,hq⟩:=ih (j+1) (by omega);obtain ⟨q0,hq0,_⟩:=mI (by omega) hq;exact ⟨q0,hq0⟩
 obtain ⟨q,hq⟩:=down (l.length - (i+1)) (i+1) (by omega);obtain ⟨q0,_,h2⟩:=mI hi hq;have hc:=yh s.vals l[i];unfold iX;simp only [Xq,Bool.or_eq_false_iff,VW,Vx,V4,Bool.not_eq_false'];unfold dN at h2;split at h2
 .rename_i h3;exact ⟨⟨by omega,by omega⟩,.inl (by omega)⟩
 .split at h2
  .rename_i h3 h4;split at h2
   .rename_i c hcm;rw [hcm] at hc;simp only [Option.isSome_some] at hc;have hc:=hc.symm;rw [Vw] at hc;exact ⟨⟨by omega,by omega⟩,.inr hc⟩
   .cases h2
  .split at h2
   .exact ⟨⟨by omega,by omega⟩,.inl (by omega)⟩
   .split at h2
    .exact ⟨⟨by omega,by omega⟩,.inl (by omega)⟩
    .split at h2
     .exact ⟨⟨by omega,by omega⟩,.inl (by omega)⟩
     .split at h2
      .exact ⟨⟨by omega,by omega⟩,.inl (by omega)⟩
      .cases h2
theorem Ar {l:List ah} {s:St} (h1:be (l.map ah.op)=0) (h2:∀ x ∈ l,iX s.vals true x=true):∃ b,da (yb s.vals) s.opn s.don l []=some [b] /\ i7 l s=some b:=by
 have h3:aZ (l.map ah.op) 0=some 1:=by
  unfold be at h1;split at h1
  .cases h1
  .split at h1
   .cases h1
   .split at h1
    .assumption
    .cases h1
 obtain ⟨r,h4,h5⟩:=Jr h2 l.length 1 (Os _) (by rw [show l.length=(l.map ah.op).length by simp,Vq];exact h3);rw [Vq] at h4
 match r,h5 with
 | [b],_=>
  refine ⟨b,h4,?_⟩;unfold i7 gj;rw [Vh (by simp [h1]),h4]
theorem zo {l:List ah} {s:St} (h:¬ (be (l.map ah.op)=0 /\ ∀ x ∈ l,iX s.vals true x=true)):i7 l s=none:=by
 unfold i7 gj;split
 .rfl
 .rename_i h1
  cases hr:da (yb s.vals) s.opn s.don l [] with
  | none=>rfl
  | some r=>exact absurd ⟨by simpa using h1,CL hr⟩ h
end
section
theorem wd:((2:Int)=0)=False:=by simp
theorem eJ (s i:Int) (hs:aI s):aw Tryz.prog 101 [eI s,eI i] (val (.bool (bp s i))):=by
 refine aa ag Tryz.func101 rfl (by decide) Tryz.ntmps101 Tryz.results101 rfl (aL _) ?_
 repeat' first|refine go ?_|decide|refine sp ?_ ?_<;>intro _
 .rename_i h;simp at h;simp [bp];omega
 .rename_i h1 h2;simp at h1 h2;simp [bp];omega
 .rename_i h1 h2;simp at h1 h2;obtain ⟨q,rfl⟩:∃ q:Nat,i=(q:Int):=⟨i.toNat,by omega⟩;have e0:s / 2 ^ 0=s:=by simp
  refine af (fun st=>∃ k:Nat,k<=q /\ st=⟨31,[(0,eI (s / 2 ^ k)),(1,eI (q:Int)),(5,eI (k:Int))],[],0⟩) (fun st=>q - ax st 5) ⟨_,(wE e0),0,Vg _,rfl⟩ ?_;rintro _ ⟨k,hk,rfl⟩;have hp:(1:Int)<=2 ^ k:=Int.pow_pos (by omega)
  have hd0:-9223372036854775808<=s / 2 ^ k:=by
   refine Int.le_ediv_of_mul_le (by omega) ?_;have:=hs.1;generalize (2:Int) ^ k=p at *;omega
  have hd1:s / 2 ^ k<=9223372036854775807:=by
   by_cases h:s<0
   .have:=Int.ediv_neg_of_neg_of_pos h (by omega:(0:Int)<2 ^ k);omega
   .exact Int.le_trans (Int.ediv_le_self _ (by omega)) hs.2
  have ed:s / 2 ^ (k+1)=s / 2 ^ k / 2:=by
   rw [Int.pow_succ,Int.ediv_ediv_of_nonneg (Int.le_of_lt (Int.pow_pos (by omega)))]
  generalize hx:s / 2 ^ k=x at *;by_cases hxn:x % 2=1 /\ x<0
  .have et:x.tmod 2 = -1:=by
    have h3:x.tmod 2 = -((-x) % 2):=by
     rw [<- Int.tmod_eq_emod_of_nonneg (by omega),Int.neg_tmod];omega
    omega
   have en:decide ((-1:Int)<0)=true:=(by decide);have em:IntKind.i64.wrap (0 - (-1))=1:=(by decide);have ew:IntKind.i64.wrap (x - 1)=x - 1:=aD (by omega) (by omega)
   have eq:(x - 1).tdiv 2=x / 2:=by
    have h3:(2:Int) ∣ x - 1:=⟨x / 2,by omega⟩;rw [Int.tdiv_eq_ediv_of_dvd h3];omega
   by_cases hlt:k<q
   .repeat' first|refine ge (kf @hlt (kf @wd (kf et (kf en (kf em (kf ew eq)))))) ?_|decide|refine sp ?_ ?_<;>intro _
    have ew2:IntKind.i64.wrap (x / 2)=x / 2:=aD (by omega) (by omega);exact rI (wE (kf ed ew2)) ⟨k+1,by omega,rfl⟩
   .obtain rfl:k=q:=by omega
    repeat' first|refine ge (kf @hlt (kf @wd et)) ?_|decide|refine sp ?_ ?_<;>intro _
    have hk31:(k:Int)<31:=(by omega);simp [bp,hx,hk31,hxn.1]
  have et:x.tmod 2=x % 2:=by
   by_cases h:x<0
   .have h0:x % 2=0:=(by omega);rw [h0];exact Int.tmod_eq_zero_of_dvd ⟨x / 2,by omega⟩
   .exact Int.tmod_eq_emod_of_nonneg (by omega)
  have en:decide (x % 2<0)=false:=by simp;omega
  have ew:IntKind.i64.wrap (x - x % 2)=x - x % 2:=aD (by omega) (by omega)
  have eq:(x - x % 2).tdiv 2=x / 2:=by
   have h3:(2:Int) ∣ x - x % 2:=⟨x / 2,by omega⟩;rw [Int.tdiv_eq_ediv_of_dvd h3];omega
  by_cases hlt:k<q
  .repeat' first|refine ge (kf @hlt (kf @wd (kf et (kf en (kf ew eq))))) ?_|decide|refine sp ?_ ?_<;>intro _
   have ew2:IntKind.i64.wrap (x / 2)=x / 2:=aD (by omega) (by omega);exact rI (wE (kf ed ew2)) ⟨k+1,by omega,rfl⟩
  .obtain rfl:k=q:=by omega
   repeat' first|refine ge (kf @hlt (kf @wd et)) ?_|decide|refine sp ?_ ?_<;>intro _
   have hk31:(k:Int)<31:=(by omega);simp [bp,hx,hk31];rcases Int.emod_two_eq x with h|h<;>simp [h]
def lk (f:Nat -> Bool):Nat -> Nat
 | 0=>0
 | k+1=>lk f k+if f k=true then 2 ^ k else 0
theorem jW (f:Nat -> Bool):∀ k,lk f k<2 ^ k
 | 0=>by simp [lk]
 | k+1=>by
  have:=jW f k;unfold lk;rw [Nat.pow_succ];split<;>omega
theorem mg (f:Nat -> Bool):∀ k j,(lk f k).testBit j=(decide (j<k) && f j)
 | 0,j=>by simp [lk]
 | k+1,j=>by
  have hl:=jW f k;unfold lk;split
  .rename_i hf;rw [Nat.add_comm];rcases Xa j k with h|h|h
   .rw [Nat.testBit_two_pow_add_gt h,mg f k j];simp [h,show j<k+1 by omega]
   .subst h;rw [Nat.testBit_two_pow_add_eq,mg f j j];simp [hf]
   .rw [WG,Eq.comm]
    .simp;omega
    .have:2 ^ (k+1)<=2 ^ j:=VU (by omega) h;rw [Nat.pow_succ] at this;omega
  .rename_i hf;rw [XA,mg f k j];rcases Xa j k with h|h|h
   .simp [h,show j<k+1 by omega]
   .subst h;simp [hf]
   .simp [show ¬ j<k by omega,show ¬ j<k+1 by omega]
theorem u3 (f:Nat -> Bool) (j:Nat) (hj:j<31):bp (lk f 31:Nat) (j:Int)=f j:=by
 rw [cS _ j hj,tN _ (jW f 31),mg];simp [hj]
theorem Dm {a b:Int} (ha:0<=a /\ a<2147483648) (hb:0<=b /\ b<2147483648) (h:∀ j:Nat,j<31 -> bp a j=bp b j):a=b:=by
 have e1:((kR a:Nat):Int)=a:=by unfold kR;omega
 have e2:((kR b:Nat):Int)=b:=by unfold kR;omega
 rw [<- e1,<- e2]
 congr 1
 apply Xr;intro j;by_cases hj:j<31
 .rw [<- cS a j hj,<- cS b j hj];exact h j hj
 .rw [WG (Vm (gn a) (VU (by omega) (by omega))),WG (Vm (gn b) (VU (by omega) (by omega)))]
abbrev sB (l:List Bool):AV:=.sl 1 (l.map fun b=>[eB b])
def nk (l:List Bool) (k:Nat):Int:=(lk (fun i=>l.getD i false) k:Nat)
def BV (k:Nat):Int:=(2 ^ k:Nat)
theorem Fj {k:Nat} (hk:k<=31):IntKind.i64.wrap (BV k * 2)=BV (k+1):=by
 have h2:2 ^ k<=2 ^ 31:=VU (by omega) hk;unfold BV;rw [Nat.pow_succ];generalize 2 ^ k=p at *;rw [aD (by omega) (by omega)];simp
theorem Jp {l:List Bool} {k:Nat} (hk:k<=31) (h:l.getD k false=true):IntKind.i64.wrap (nk l k+BV k)=nk l (k+1):=by
 have h2:2 ^ k<=2 ^ 31:=VU (by omega) hk;have h1:=jW (fun i=>l.getD i false) k;unfold nk BV;rw [lk,Vn h];generalize lk (fun i=>l.getD i false) k=b at *;generalize 2 ^ k=p at *;rw [aD (by omega) (by omega)];simp
theorem Nk {l:List Bool} {k:Nat} (h:l.getD k false=false):nk l k=nk l (k+1):=by
 unfold nk;rw [lk,Vh (by rw [h];simp)];rfl
theorem IB (l:List Bool) (hl:l.length<=31):aw Tryz.prog 154 [sB l] (val (.int .i64 (nk l l.length))):=by
 refine aa ag Tryz.func154 rfl (by decide) Tryz.ntmps154 Tryz.results154 rfl (aL _) ?_
 repeat' first|refine go ?_|decide|refine sp ?_ ?_<;>intro _
 have e0:nk l 0=0:=rfl;have e1:BV 0=1:=rfl;refine af (fun st=>∃ k:Nat,k<=l.length /\ st=⟨22,[(0,sB l),(3,eI (nk l k)),(4,eI (BV k)),(5,eI (k:Int))],[],0⟩) (fun st=>l.length - ax st 5) ⟨_,(wE (kf e0 e1)),0,Vg _,rfl⟩ ?_;rintro _ ⟨k,hk,rfl⟩;by_cases hlt:k<l.length
 .have ep:=Fj (k:=k) (by omega);have eg:l.getD k false=l[k]:=by simp [hlt]
  repeat' first|refine go ?_|simp only [ab,hlt]|decide|refine sp ?_ ?_<;>intro _
  .rename_i hb;have ew:=Jp (l:=l) (k:=k) (by omega) (by rw [eg];exact hb);exact rI (wE (kf ew ep)) ⟨k+1,by omega,rfl⟩
  .rename_i hb;have ew:=Nk (l:=l) (k:=k) (by rw [eg];exact hb);rw [ew];exact rI (wE ep) ⟨k+1,by omega,rfl⟩
 .obtain rfl:k=l.length:=by omega
  repeat' first|refine go ?_|simp only [ab,hlt]|decide|refine sp ?_ ?_<;>intro _
def rd (s:Int):List Bool:=(List.range 31).map fun (i:Nat)=>bp s (i:Int)
theorem Km (s:Int) (hs:aI s):aw Tryz.prog 153 [eI s] (iZ 4 1 ((rd s).map fun b=>[eB b])):=by
 refine aa ag Tryz.func153 rfl (by decide) Tryz.ntmps153 Tryz.results153 rfl (cT _ _ _) ?_
 repeat' first|refine go ?_|decide|refine sp ?_ ?_<;>intro _
 have hil:(rd s).length=31:=by simp [rd]
 refine af (fun st=>∃ k:Nat,k<=31 /\ st=⟨16,[(0,eI s),(3,.osl 0),(4,eI (k:Int))],[(0,some (.row 4 1 (((rd s).take k).map fun b=>[eB b])))],1⟩) (fun st=>31 - ax st 4) ⟨_,((bA 3 4 1 (by simp only [jn,aj.get,bh,aj.put,↓reduceIte,reduceCtorEq,Nat.reduceLT,Nat.reduceEqDiff,Nat.reduceAdd,Nat.reduceLeDiff,eq_self,implies_true,VA])).trans (wS [0] @VA)),0,Vg _,rfl⟩ ?_;rintro _ ⟨k,hk,rfl⟩;by_cases hlt:k<31
 .have et:((rd s).take (k+1)).map (fun b=>[eB b])=((rd s).take k).map (fun b=>[eB b]) ++ [[eB (bp s (k:Int))]]:=by
   rw [dT (fun b=>[eB b]) (rd s) (show k<(rd s).length by omega)];simp [rd]
  have hkl:((rd s).take k).length=k:=by rw [Vr];omega
  have e1:decide ((k:Int)<31)=true:=by simp;omega
  repeat' first|refine ge e1 ?_|decide|refine sp ?_ ?_<;>intro _
  refine ay (eJ s k hs) ?_
  repeat' first|refine ge e1 ?_|decide|refine sp ?_ ?_<;>intro _
  refine ⟨rfl,by omega,rI (wS [2] et) ⟨k+1,by omega,rfl⟩⟩
 .obtain rfl:k=31:=by omega
  have e1:decide (((31:Nat):Int)<31)=false:=by decide
  repeat' first|refine ge e1 ?_|decide|refine sp ?_ ?_<;>intro _
  refine aY ?_;simp [ae.gc,VK (Nat.le_of_eq hil)]
theorem OC (s:Int) (i:Int) (b:Bool) (h0:0<=i) (h1:i<31):nk ((rd s).set i.toNat b) 31=if b=true then dK s i else co s i:=by
 have hr:=jW (fun j=>((rd s).set i.toNat b).getD j false) 31
 have hw:(0:Int)<=(if b=true then dK s i else co s i) /\ (if b=true then dK s i else co s i)<2147483648:=by
  split
  .unfold dK;rw [Vn ⟨h0,h1⟩];have:kR s ||| 2 ^ i.toNat<2 ^ 31:=Nat.or_lt_two_pow (gn s) (Nat.pow_lt_pow_right (by omega) (by omega));omega
  .unfold co;rw [Vn ⟨h0,h1⟩];have:kR s ^^^ (kR s &&& 2 ^ i.toNat)<2 ^ 31:=Nat.xor_lt_two_pow (gn s) (XD Nat.and_le_left (gn s));omega
 unfold nk;refine Dm (by omega) hw fun j hj=>?_;rw [u3 _ j hj];have hlen:(rd s).length=31:=by simp [rd]
 have hg:((rd s).set i.toNat b).getD j false=if i.toNat=j then b else bp s (j:Int):=by
  rw [Vl,Wz];split
  .rename_i h;rw [hlen,Vn (by omega)];rfl
  .simp [rd,hj]
 rw [hg];have e1:(decide (0<=i /\ i<31))=true:=by simp [h0,h1]
 split
 .rename_i h;have h2:((j:Int) == i)=true:=by simp;omega
  cases b
  .simp [iG,h2]
  .simp [vc,e1,h2]
 .rename_i h;have h2:((j:Int) == i)=false:=by simp;omega
  cases b
  .simp [iG,h2]
  .simp [vc,h2]
theorem sY (s i:Int) (b:Bool) (hs:aI s) (h0:0<=i) (h1:i<31):aw Tryz.prog 120 [eI s,eI i,eB b] (val (.int .i64 (if b=true then dK s i else co s i))):=by
 refine aa ag Tryz.func120 rfl (by decide) Tryz.ntmps120 Tryz.results120 rfl (aL _) ?_;rw [<- OC s i b h0 h1];have hlen:(rd s).length=31:=by simp [rd]
 obtain ⟨q,rfl⟩:∃ q:Nat,i=(q:Int):=⟨i.toNat,by omega⟩;have e1:decide ((q:Int)<=30)=true:=by simp;omega
 have hq:q<(rd s).length:=by omega
 have jp:∀ row ∈ (rd s).map (fun b=>[eB b]),∀ av ∈ row,av.plain:=fun row hr av ha=>by
  obtain ⟨n,_,rfl⟩:=Vt.1 hr;simp at ha;subst ha;trivial
 have hset:(((rd s).map fun b=>[eB b]).set q [eB b])=((rd s).set q b).map fun b=>[eB b]:=by rw [WK]
 repeat' first|refine ge e1 ?_|decide|refine sp ?_ ?_<;>intro _
 refine dM (Km s hs) (.inr jp) ?_
 repeat' first|refine ge e1 ?_|decide|refine sp ?_ ?_<;>intro _
 have hs':=IB ((rd s).set q b) (by simp;omega);rw [VS,hlen] at hs';refine ⟨by omega,?_⟩
 repeat' first|refine go ?_|simp only [e1,ab,hq]|decide|refine sp ?_ ?_<;>intro _
 rw [hset];refine ay (by exact hs') ?_
 repeat' first|refine go ?_|decide|refine sp ?_ ?_<;>intro _
end
end
end Go.Proofs.YtmmoidfcfjklaaaGreat
