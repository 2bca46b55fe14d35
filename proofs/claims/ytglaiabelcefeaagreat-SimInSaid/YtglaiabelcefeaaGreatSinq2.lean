/-
  Parts of the proof: Sinp3.
-/
import Derived.Test.YtglaiabelcefeaaGreatSinq1
import Derived.Maps.Own
set_option linter.unusedVariables false
set_option linter.unusedSimpArgs false
set_option linter.defProp false
set_option maxRecDepth 100000
set_option maxHeartbeats 16000000
namespace Go.Proofs.YtglaiabelcefeaaGreat
open Go.RowKit
section
section
mutual
def AV.shift(k:Nat):AV->AV
 | .osl id=>.osl (id+k)
 | .op id i j=>.op (id+k) i j
 | .agg cs=>.agg (AV.shiftL k cs)
 | .tup cs=>.tup (AV.shiftL k cs)
 | .fn f cs=>.fn f (AV.shiftL k cs)
 | .bfn f cs=>.bfn f (AV.shiftL k cs)
 | .any=>.any
 | .c v=>.c v
 | .sl sz rows=>.sl sz rows
 | .rp cs=>.rp cs
def AV.shiftL(k:Nat):List AV->List AV
 | []=>[]
 | a :: l=>a.shift k :: AV.shiftL k l
end
theorem bl(k:Nat):∀l:List AV,AV.shiftL k l=l.map (·.shift k)
 | []=>rfl
 | a :: l=>by simp[AV.shiftL,bl k l]
mutual
def AV.plain:AV->Prop
 | .sl _ _=>False
 | .rp _=>False
 | .agg cs=>AV.plainL cs
 | .tup cs=>AV.plainL cs
 | .fn _ cs=>AV.plainL cs
 | .bfn _ cs=>AV.plainL cs
 | _=>True
def AV.plainL:List AV->Prop
 | []=>True
 | a :: l=>a.plain/\AV.plainL l
end
theorem dN:∀{l:List AV},AV.plainL l↔ ∀a∈l,a.plain
 | []=>by simp[AV.plainL]
 | a :: l=>by simp[AV.plainL,dN (l:=l)]
def fx(k:Nat):List (Nat×AV)->List (Nat×AV)
 | []=>[]
 | (t,av) :: l=>(t,av.shift k) :: fx k l
theorem i8(k:Nat):∀(l:List (Nat×AV))(t:Nat),aX (fx k l) t=(aX l t).shift k
 | [],t=>rfl
 | (q,av) :: l,t=>by
  unfold fx aX;split
  .rfl
  .exact i8 k l t
def aB.shift(k:Nat):aB->aB
 | .box t cells=>.box t (AV.shiftL k cells)
 | .row e sz rows=>.row e sz rows
 | .nest e sz rows=>.nest e sz (rows.map (AV.shiftL k))
 | .map ents=>.map ents
 | .ghost vs env=>.ghost vs (fx k env)
def aB.plain:aB->Prop
 | .box _ cells=>AV.plainL cells
 | .row _ _ rows=>∀row∈rows,∀av∈row,av.plain
 | .nest _ _ rows=>∀row∈rows,∀av∈row,av.plain
 | .map _=>False
 | .ghost _ _=>False
def ae.shift(k:Nat)(T:ae):ae:=T.map fun p=>(p.1+k,p.2.map (aB.shift k))
def ae.plain:ae->Prop
 | []=>True
 | (_,some o) :: T=>o.plain/\ae.plain T
 | (_,none) :: T=>ae.plain T
theorem qk{o:aB}:∀{T:ae} {id:Nat},T.plain->T.get id=some o->o.plain
 | [],_,_,h=>by cases h
 | (k,oo) :: T,id,hp,h=>by
  rw[ae.gc] at h;split at h
  .subst h;exact hp.1
  .cases oo with
   | none=>exact qk (T:=T) hp h
   | some o'=>exact qk (T:=T) hp.2 h
theorem mK{tab:ae}{k:Nat}(hy:∀id o,tab.get id=some o->id<k):∀(T:ae)(id:Nat),(T.shift k ++ tab).get id=if id<k then tab.get id else (T.get (id-k)).map (aB.shift k)
 | [],id=>by
  simp only[ae.shift,Vn,VR];split
  .rfl
  .rename_i h
   cases hg:tab.get id with
   | none=>rfl
   | some o=>exact absurd (hy id o hg) h
 | (j,o) :: T,id=>by
  have ih:=mK hy T id;simp only[ae.shift,VE,Wc,ae.gc] at ih ⊢;by_cases h1:id=j+k
  .rw [UZ h1,UX (by omega),UZ (by omega)]
  .rw [UX h1,ih];by_cases h2:id<k
   .rw [UZ h2,UZ h2]
   .rw [UX h2,UX h2,UX (by omega)]
theorem RT.shift{w:World}{S:Nat->Prop}{x:Value}{av:AV}(h:RT w S x av)(k:Nat):av.shift k=av:=by
 induction h with
 | agg xs cs hn hr ih=>
  simp only[AV.shift,bl,AV.agg.injEq];apply VS;intro j;rw[UV]
  cases hj:cs[j]? with
  | none=>rfl
  | some av=>
   have hlt:j<xs.size:=by rw[hn];exact(US.1 hj).1
   simp[ih j _ av (UT hlt) hj]
 | tup xs cs hn hr ih=>
  simp only[AV.shift,bl,AV.tup.injEq];apply VS;intro j;rw[UV]
  cases hj:cs[j]? with
  | none=>rfl
  | some av=>
   have hlt:j<xs.size:=by rw[hn];exact(US.1 hj).1
   simp[ih j _ av (UT hlt) hj]
 | fn fi xs cs hn hr ih=>
  simp only[AV.shift,bl,AV.fn.injEq,true_and];apply VS;intro j;rw[UV]
  cases hj:cs[j]? with
  | none=>rfl
  | some av=>
   have hlt:j<xs.size:=by rw[hn];exact(US.1 hj).1
   simp[ih j _ av (UT hlt) hj]
 | bfn fi xs cs hn hr ih=>
  simp only[AV.shift,bl,AV.bfn.injEq,true_and];apply VS;intro j;rw[UV]
  cases hj:cs[j]? with
  | none=>rfl
  | some av=>
   have hlt:j<xs.size:=by rw[hn];exact(US.1 hj).1
   simp[ih j _ av (UT hlt) hj]
 | _=>simp[AV.shift]
theorem RT.plain{w:World}{S S':Nat->Prop}{x:Value}{av:AV}(h:RT w S x av)(hp:av.plain):RT w S' x av:=by
 induction h with
 | any x=>exact .any x
 | c v=>exact .c v
 | sl=>exact hp.elim
 | rp=>exact hp.elim
 | agg xs cs hn hr ih=>exact .agg xs cs hn fun j x av h1 h2=>ih j x av h1 h2 (dN.1 hp _ (r2 h2))
 | tup xs cs hn hr ih=>exact .tup xs cs hn fun j x av h1 h2=>ih j x av h1 h2 (dN.1 hp _ (r2 h2))
 | fn fi xs cs hn hr ih=>exact .fn fi xs cs hn fun j x av h1 h2=>ih j x av h1 h2 (dN.1 hp _ (r2 h2))
 | bfn fi xs cs hn hr ih=>exact .bfn fi xs cs hn fun j x av h1 h2=>ih j x av h1 h2 (dN.1 hp _ (r2 h2))
theorem RV.conv{w:World}{S S':Nat->Prop}{K K':Nat->Option (Nat×Value)}{k:Nat}{x:Value}{av:AV}(h:RV w S K x av)(hS:(∀b,S b->S' b)\/av.plain)(hK:∀id p,K' (id+k)=some p->K id=some p):RV w S' K' x (av.shift k):=by
 induction h with
 | tree h=>
  rw[h.shift k];rcases hS with hS|hS
  .exact .tree (h.mono (fun _ _=>rfl) hS)
  .exact .tree (h.plain hS)
 | osl x id h=>exact .osl x _ fun sz v e=>h sz v (hK id _ e)
 | op x id i j h=>exact .op x _ i j fun sz v e=>h sz v (hK id _ e)
 | agg xs cs hn hr ih=>
  simp only[AV.shift,bl];refine .agg xs _ (by simpa using hn) fun j x av h1 h2=>?_;rw[UV] at h2
  cases hj:cs[j]? with
  | none=>simp[hj] at h2
  | some av'=>
   simp[hj] at h2;subst h2;exact ih j x av' h1 hj (hS.imp id fun hp=>dN.1 hp _ (r2 hj))
 | tup xs cs hn hr ih=>
  simp only[AV.shift,bl];refine .tup xs _ (by simpa using hn) fun j x av h1 h2=>?_;rw[UV] at h2
  cases hj:cs[j]? with
  | none=>simp[hj] at h2
  | some av'=>
   simp[hj] at h2;subst h2;exact ih j x av' h1 hj (hS.imp id fun hp=>dN.1 hp _ (r2 hj))
 | fn fi xs cs hn hr ih=>
  simp only[AV.shift,bl];refine .fn fi xs _ (by simpa using hn) fun j x av h1 h2=>?_;rw[UV] at h2
  cases hj:cs[j]? with
  | none=>simp[hj] at h2
  | some av'=>
   simp[hj] at h2;subst h2;exact ih j x av' h1 hj (hS.imp id fun hp=>dN.1 hp _ (r2 hj))
 | bfn fi xs cs hn hr ih=>
  simp only[AV.shift,bl];refine .bfn fi xs _ (by simpa using hn) fun j x av h1 h2=>?_;rw[UV] at h2
  cases hj:cs[j]? with
  | none=>simp[hj] at h2
  | some av'=>
   simp[hj] at h2;subst h2;exact ih j x av' h1 hj (hS.imp id fun hp=>dN.1 hp _ (r2 hj))
theorem iw{n k:Nat}:∀{av:AV},av.lt n->(av.shift k).lt (k+n):=by
 intro av
 induction av using AV.rec (motive_2:=fun _=>True) (motive_3:=fun l=>AV.ltL n l->AV.ltL (k+n) (AV.shiftL k l))<;>simp_all [AV.lt,AV.ltL,AV.shift,AV.shiftL]<;>omega
theorem lJ{n k:Nat}:∀{l:List (Nat×AV)},cU n l->cU (k+n) (fx k l)
 | [],_=>trivial
 | (_,_) :: _,h=>⟨iw h.1,lJ h.2⟩
structure cu where
 r:AV
 tab:ae:=[]
 n:Nat:=0
structure cu.Ok(R:cu):Prop where
 young:∀id o,R.tab.get id=some o->id<R.n/\o.lt R.n
 lt:R.r.lt R.n
def fy(P:Program)(f:FuncId):Prop:=∀(args:Array Value)(w:World),(callFunc f args).run P w=.ok (.enter f args) w
def dp(P:Program)(f:FuncId)(args:List AV)(Post:cu->Prop):Prop:=
 fy P f/\∀(S:Nat->Prop)(w:World)(vs:Array Value)(hS:FJ w S),vs.size=args.length->(∀(j:Nat)(v:Value)(av:AV),vs[j]? = some v->args[j]? = some av->RT w S v av) ->
  Calls P f vs w fun e w'=>∃v L R,Post R/\R.Ok/\e=.returned v/\iM (Cx.mk0 S w hS) w' R.tab L/\bL (Cx.mk0 S w hS) w' R.tab L v R.r
def am(P:Program)(f:FuncId)(args:List AV)(R:cu):Prop:=dp P f args fun R'=>R'=R
theorem dp.mono{P:Program}{f:FuncId}{args:List AV}{Post Post':cu->Prop}(h:dp P f args Post)(hp:∀R,Post R->Post' R):dp P f args Post':=
 ⟨h.1,fun S w vs h1 h2 h3=>(h.2 S w vs h1 h2 h3).mono fun e w' ⟨v,L,R,h4,h5⟩=>⟨v,L,R,hp R h4,h5⟩⟩
def nu:AV->AV
 | .c v=>.c v
 | .sl sz rows=>.sl sz rows
 | .rp cs=>.rp cs
 | _=>.any
def o6(tab:ae):AV->AV
 | .osl id=>match tab.get id with
  | some (.row _ sz rows)=>.sl sz rows
  | some (.nest _ sz rows)=>.sl sz (rows.map fun row=>row.map nu)
  | _=>.any
 | .c v=>.c v
 | .sl sz rows=>.sl sz rows
 | .rp cs=>.rp cs
 | _=>.any
def f8(tab:ae):AV->AV
 | .osl id=>match tab.get id with
  | some (.row _ sz rows)=>.sl sz rows
  | some (.nest _ sz rows)=>.sl sz (rows.map fun row=>row.map (o6 tab))
  | _=>.any
 | .op _ _ _=>.any
 | .agg _=>.any
 | .tup _=>.any
 | .fn _ _=>.any
 | .bfn _ _=>.any
 | .any=>.any
 | .c v=>.c v
 | .sl sz rows=>.sl sz rows
 | .rp cs=>.rp cs
def gL(tab:ae):AV->AV
 | .agg cs=>.agg (cs.map (f8 tab))
 | .op id i j=>match tab.get id with
  | some (.box _ cells)=>if i=0 then .rp ((cells.drop j).map (f8 tab)) else .any
  | some (.row _ _ rows)=>if i<rows.length then .rp ((rows[i]?.getD []).drop j) else .any
  | _=>.any
 | .osl id=>f8 tab (.osl id)
 | .tup _=>.any
 | .fn _ _=>.any
 | .bfn _ _=>.any
 | .any=>.any
 | .c v=>.c v
 | .sl sz rows=>.sl sz rows
 | .rp cs=>.rp cs
def gj(tab:ae):AV->AV
 | .fn f cs=>.fn f (cs.map (gL tab))
 | .bfn f cs=>.bfn f (cs.map (gL tab))
 | .agg cs=>.agg (cs.map (f8 tab))
 | .op id i j=>match tab.get id with
  | some (.box _ cells)=>if i=0 then .rp ((cells.drop j).map (f8 tab)) else .any
  | some (.row _ _ rows)=>if i<rows.length then .rp ((rows[i]?.getD []).drop j) else .any
  | _=>.any
 | .osl id=>f8 tab (.osl id)
 | .tup _=>.any
 | .any=>.any
 | .c v=>.c v
 | .sl sz rows=>.sl sz rows
 | .rp cs=>.rp cs
def pi:AV->Prop
 | .osl _=>False
 | .op _ _ _=>False
 | .tup _=>False
 | .agg cs=>bD cs
 | .fn _ cs=>bD cs
 | .bfn _ cs=>bD cs
 | _=>True
def m8:List AV->Prop
 | []=>True
 | a :: l=>pi a/\m8 l
theorem xr:∀{l:List AV},m8 l↔ ∀a∈l,pi a
 | []=>by simp[m8]
 | a :: l=>by simp[m8,xr (l:=l)]
def BK(P:Program)(st:aj)(f:FuncId)(avs:List AV)(K:AV->aj->Prop):Prop:=
 ∃Post:cu->Prop,dp P f (avs.map (gj st.tab)) Post/\∀R,Post R->(m8 avs\/(R.r.plain/\R.tab.plain))/\K (R.r.shift st.next) { st with tab:=R.tab.shift st.next ++ st.tab,next:=st.next+R.n }
def Ua(P:Program)(st:aj)(f:FuncId)(avs:List AV)(K:AV->aj->Prop):Prop:=
 fy P f/\∃v:Value,K (.c v) st/\∀(cx:Cx)(a:Act)(w:World)(L:Nat->Value)(vs:Array Value),aH cx a w st L->vs.size=avs.length->(∀(j:Nat)(v:Value)(av:AV),vs[j]? = some v->avs[j]? = some av->bL cx w st.tab L v av) ->
  Calls P f vs w fun e w'=>e=.returned v/\Below w.heap.size w w'
def pZ(P:Program)(st:aj)(f:FuncId)(avs:List AV)(K:AV->aj->Prop):Prop:=BK P st f avs K\/Ua P st f avs K
def Te(P:Program)(f:FuncId)(e:TypeId)(sz:Nat)(vals:List (List Value))(rest:List Value)(vals':List (List Value)):Prop:=
 fy P f/\∀(w:World)(v:Value)(base:Nat),fc w base e sz v vals.length vals.flatten->Calls P f (v :: rest).toArray w fun ex w'=>∃v',ex=.returned v' /\ fc w' base e sz v' vals'.length vals'.flatten/\w.grownBy w' v.ownBlock/\v'.ownBlock=v.ownBlock
def i5(vals:List (List Value)):List (List AV):=vals.map fun r=>r.map AV.c
def Tk(P:Program)(st:aj)(f:FuncId)(avs:List AV)(K:AV->aj->Prop):Prop:=
 ∃(id e sz:Nat)(vals:List (List Value))(rest:List Value)(vals':List (List Value)),avs=.osl id :: rest.map .c/\st.tab.get id=some (.row e sz (i5 vals))/\Te P f e sz vals rest vals' /\ (∀r∈vals',r.length=sz/\∀x∈r,x.oneCell'=true) /\
  K (.osl st.next) { st with tab:=bO st.tab st.next (some id) (.row e sz (i5 vals')),next:=st.next+1 }
def Da(P:Program)(st:aj)(f:FuncId)(avs:List AV)(K:AV->aj->Prop):Prop:=∃ids,pZ P (iA st ids) f (jU st ids avs) K
def zf(w:World)(S:Nat->Prop)(base:Nat)(e:TypeId)(sz:Nat)(v:Value)(rows:List (List AV)):Prop:=
 (∀row∈rows,row.length=sz)/\∃xs,fc w base e sz v rows.length xs/\(∀x∈xs,x.oneCell'=true)/\∀(i j:Nat)(row:List AV)(av:AV),rows[i]? = some row->row[j]? = some av->∃x,xs[i * sz+j]? = some x/\RT w S x av
def Uw(P:Program)(f:FuncId)(e:TypeId)(sz:Nat)(rows:List (List AV))(args:List AV)(rows':List (List AV)):Prop:=
 fy P f/\∀(S:Nat->Prop)(w:World)(base:Nat)(v:Value)(vs:Array Value),FJ w S->wY<=base->zf w S base e sz v rows->(∀g,aL v=some g->¬S g)->vs.size=args.length->(∀(j:Nat)(x:Value)(av:AV),vs[j]? = some x->args[j]? = some av->RT w S x av) ->
  Calls P f (#[v] ++ vs) w fun ex w'=>ex=.returned (.tuple #[])/\(w'.os=w.os/\w'.tape=w.tape/\w'.output=w.output)/\w.heap.size<=w'.heap.size/\(∀k,k<w.heap.size->aL v≠some k->w'.heap[k]? = w.heap[k]?)/\zf w' (fun b=>(S b\/w.heap.size<=b)/\b<w'.heap.size) base e sz v rows'
def Ue(P:Program)(st:aj)(f:FuncId)(avs:List AV)(K:AV->aj->Prop):Prop:=
 ∃(id e sz:Nat)(rows rows':List (List AV))(rest:List AV),avs=.osl id :: rest/\st.tab.get id=some (.row e sz rows)/\k7 rest/\Uw P f e sz rows rest rows' /\ K (.tup []) { st with tab:=(id,some (.row e sz rows')) :: st.tab }
def Lm(P:Program)(st:aj)(f:FuncId)(avs:List AV)(K:AV->aj->Prop):Prop:=
 fy P f/\∀(cx:Cx)(a:Act)(w:World)(L:Nat->Value)(vs:Array Value)(dst:Option Nat),aH cx a w st L->vs.size=avs.length->(∀(j:Nat)(v:Value)(av:AV),vs[j]? = some v->avs[j]? = some av->bL cx w st.tab L v av/\av.lt st.next) ->
  Calls P f vs w fun e w'=>∃v av st' L',e=.returned v/\K av st' /\ aH cx (a.put dst v) w' (st'.put dst av) L' /\ Fr cx w st.tab L st.next w' st'.tab L' st'.next
def Eo(P:Program)(st:aj)(f:FuncId)(avs:List AV)(K:AV->aj->Prop):Prop:=Tk P st f avs K\/Ue P st f avs K\/Lm P st f avs K
mutual
def AV.ren(l:List Nat):AV->AV
 | .osl id=>.osl (l.getD id 0)
 | .op id i j=>.op (l.getD id 0) i j
 | .agg cs=>.agg (AV.renL l cs)
 | .tup cs=>.tup (AV.renL l cs)
 | .fn f cs=>.fn f (AV.renL l cs)
 | .bfn f cs=>.bfn f (AV.renL l cs)
 | .any=>.any
 | .c v=>.c v
 | .sl sz rows=>.sl sz rows
 | .rp cs=>.rp cs
def AV.renL(l:List Nat):List AV->List AV
 | []=>[]
 | a :: l2=>a.ren l :: AV.renL l l2
end
theorem bu(l:List Nat):∀l2:List AV,AV.renL l l2=l2.map (·.ren l)
 | []=>rfl
 | a :: l2=>by simp[AV.renL,bu l l2]
def pA(nx0:Nat)(ids:List Nat)(id:Nat):Prop:=id∈ids\/nx0<=id
def cz:Nat->List aB->ae
 | _,[]=>[]
 | k,o :: l=>(k,some o) :: cz (k+1) l
def dF:aB->Prop
 | .row _ _ _=>True
 | .map _=>True
 | _=>False
def IL(P:Program)(f:FuncId)(t:TypeId)(cells:List AV)(objs:List aB)(rest:List AV)(Post:AV->List AV->List aB->Prop):Prop:=
 fy P f/\AV.ltL (objs.length+1) cells/\∀(cx:Cx)(w:World)(L:Nat->Value)(vs:Array Value),iM cx w (cz 0 (.box t cells :: objs)) L->vs.size=rest.length+1->(∀x,vs[0]? = some x->x=L 0) ->
  (∀(j:Nat)(x:Value)(av:AV),vs[j+1]? = some x->rest[j]? = some av->RT w (Sx cx w (cz 0 (.box t cells :: objs)) L) x av) ->
  Calls P f vs w fun e w'=>∃v av cells' objs' L',e=.returned v/\Post av cells' objs' /\ iM cx w' (cz 0 (.box t cells' :: objs')) L' /\ RT w' (Sx cx w' (cz 0 (.box t cells' :: objs')) L') v av/\L' 0=L 0/\cells'.length=cells.length /\
   AV.ltL (objs'.length+1) cells' /\ (∀o∈objs',dF o)/\Fz w (cz 0 (.box t cells :: objs)) L w' (cz 0 (.box t cells' :: objs')) L'
def y8(P:Program)(f:FuncId)(t:TypeId)(cells:List AV)(objs:List aB)(args:List AV)(Post:AV->List AV->List aB->Prop):Prop:=
 fy P f/\AV.ltL (objs.length+1) cells/\∀(cx:Cx)(w:World)(L:Nat->Value)(vs:Array Value),iM cx w (cz 0 (.box t cells :: objs)) L->vs.size=args.length ->
  (∀(j:Nat)(x:Value)(av:AV),vs[j]? = some x->args[j]? = some av->bL cx w (cz 0 (.box t cells :: objs)) L x av) ->
  Calls P f vs w fun e w'=>∃v av cells' objs' L',e=.returned v/\Post av cells' objs' /\ iM cx w' (cz 0 (.box t cells' :: objs')) L' /\ RT w' (Sx cx w' (cz 0 (.box t cells' :: objs')) L') v av/\L' 0=L 0/\cells'.length=cells.length /\
   AV.ltL (objs'.length+1) cells' /\ (∀o∈objs',dF o)/\Fz w (cz 0 (.box t cells :: objs)) L w' (cz 0 (.box t cells' :: objs')) L'
def rO(tab:ae):List Nat->List aB->Prop
 | [],[]=>True
 | i :: is,o :: os=>(tab.get i=some o/\dF o)/\rO tab is os
 | _,_=>False
def kx(st:aj)(b:Nat)(ids:List Nat)(t:TypeId)(cells:List AV)(objs:List aB):ae:=
 (b,some (.box t (AV.renL (b :: List.range' st.next objs.length) cells))) :: (cz st.next objs ++ (ids.map (fun i=>(i,none)) ++ st.tab))
def Sk(u:Option (Nat×List Nat))(P:Program)(st:aj)(f:FuncId)(avs:List AV)(K:AV->aj->Prop):Prop:=
 ∃(t:TypeId)(cells:List AV)(objs:List aB)(args:List AV)(Post:AV->List AV->List aB->Prop)(b:Nat)(ids:List Nat),y8 P f t cells objs args Post/\avs=AV.renL (b :: ids) args /\
  st.tab.get b=some (.box t (AV.renL (b :: ids) cells))/\rO st.tab ids objs/\(b :: ids).Nodup/\(∀p,u=some p->∀id∈b :: ids,pA p.1 p.2 id) /\
  ∀av cells' objs',Post av cells' objs' -> K av { st with tab:=kx st b ids t cells' objs',next:=st.next+objs'.length }
def UO(u:Option (Nat×List Nat))(P:Program)(st:aj)(f:FuncId)(avs:List AV)(K:AV->aj->Prop):Prop:=
 ∃ids,AV.ltL st.next avs/\(∀p,u=some p->∀id∈ids,pA p.1 p.2 id)/\BK P (iA st ids) f (jU st ids avs) K
def Ad(u:Option (Nat×List Nat))(P:Program)(st:aj)(f:FuncId)(avs:List AV)(K:AV->aj->Prop):Prop:=Sk u P st f avs K\/UO u P st f avs K
def gb(u:Option (Nat×List Nat))(P:Program)(st:aj)(f:FuncId)(avs:List AV)(K:AV->aj->Prop):Prop:=pZ P st f avs K\/(u=none/\(Eo P st f avs K\/Da P st f avs K))\/Ad u P st f avs K
section
variable {P:Program} {cx:Cx} {a:Act} {w w':World} {tab:ae} {st:aj} {L:Nat->Value} {nx:Nat}
theorem zH{e:TypeId}{sz:Nat}{v:Value}{rows:List (List AV)}(h:iu cx w tab L v (.row e sz rows)):RT w (fun b=>b<w.heap.size) v (.sl sz rows):=by
 obtain⟨hrow,xs,hown,hone,hx⟩:=h
 have hm:∀i j row av,rows[i]? = some row->row[j]? = some av->(xs[i * sz+j]?.getD undef).oneCell'=true/\RT w (fun b=>b<w.heap.size) (xs[i * sz+j]?.getD undef) av/\∃x,xs[i * sz+j]? = some x:=fun i j row av h1 h2=>by
  obtain⟨x,hx1,hx2⟩:=hx i j row av h1 h2;rw[hx1];exact⟨hone x (r2 hx1),hx2.mono (fun _ _=>rfl) (fun b hb=>hb.1),x,rfl⟩
 rcases hown.2 with ⟨rfl,h0⟩|⟨g,cap,cur,rfl,hb,hg,hc,hm',_⟩
 .exact .sl none _ 0 sz rows 0 0 (fun i j=>xs[i * sz+j]?.getD undef) h0.symm (UU _) (by omega) (fun h=>by omega) hrow (fun h=>by omega) (fun i j row av h1 h2=>(hm i j row av h1 h2).1) (fun i j row av h1 h2=>(hm i j row av h1 h2).2.1)
 .refine .sl _ _ cap sz rows g 0 (fun i j=>xs[i * sz+j]?.getD undef) rfl hc (by simpa[maxLen] using hm') (fun _=>⟨rfl,(Vm.1 hg).1⟩) hrow (fun _ i j row av h1 h2=>?_) (fun i j row av h1 h2=>(hm i j row av h1 h2).1) (fun i j row av h1 h2=>(hm i j row av h1 h2).2.1);obtain⟨x,hx⟩:=(hm i j row av h1 h2).2.2;have:=hown.cells (g:=g) rfl _ x hx;rw[ig] at this;rw[hx,We];exact this
theorem vi{e:TypeId}{sz:Nat}{v:Value}{rows:List (List AV)}(f:AV->AV)(hf:∀x av,bL cx w tab L x av->RT w (fun b=>b<w.heap.size) x (f av))(h:iu cx w tab L v (.nest e sz rows)):RT w (fun b=>b<w.heap.size) v (.sl sz (rows.map fun row=>row.map f)):=by
 obtain⟨hrow,xs,hown,hone,hx⟩:=h
 have hg:∀i j (row:List AV) (av:AV),(rows.map fun row=>row.map f)[i]? = some row->row[j]? = some av->∃row' av',rows[i]? = some row' /\ row'[j]? = some av' /\ av=f av':=fun i j row av h1 h2=>by
  rw[UV] at h1
  cases hi:rows[i]? with
  | none=>simp[hi] at h1
  | some row'=>
   simp[hi] at h1;subst h1;rw[UV] at h2
   cases hj:row'[j]? with
   | none=>simp[hj] at h2
   | some av'=>
    simp[hj] at h2;exact⟨row',av',hi,hj,h2.symm⟩
 have hm:∀i j (row:List AV) (av:AV),(rows.map fun row=>row.map f)[i]? = some row->row[j]? = some av->(xs[i * sz+j]?.getD undef).oneCell'=true/\RT w (fun b=>b<w.heap.size) (xs[i * sz+j]?.getD undef) av/\∃x,xs[i * sz+j]? = some x:=fun i j row av h1 h2=>by
  obtain⟨row',av',h3,h4,rfl⟩:=hg i j row av h1 h2;obtain⟨x,hx1,hx2⟩:=hx i j row' av' h3 h4;rw[hx1];exact⟨hone x (r2 hx1),hf x av' hx2,x,rfl⟩
 have hrow':∀row∈(rows.map fun row=>row.map f),row.length=sz:=fun row hr=>by
  obtain⟨r,h1,rfl⟩:=U3.1 hr;rw[Vd];exact hrow r h1
 rcases hown.2 with ⟨rfl,h0⟩|⟨g,cap,cur,rfl,hb,hgh,hc,hm',_⟩
 .exact .sl none _ 0 sz _ 0 0 (fun i j=>xs[i * sz+j]?.getD undef) (by rw[Vd];exact h0.symm) (UU _) (by omega) (fun h=>by omega) hrow' (fun h=>by omega) (fun i j row av h1 h2=>(hm i j row av h1 h2).1) (fun i j row av h1 h2=>(hm i j row av h1 h2).2.1)
 .refine .sl _ _ cap sz _ g 0 (fun i j=>xs[i * sz+j]?.getD undef) (by rw[Vd]) hc (by simpa[maxLen] using hm') (fun _=>⟨rfl,(Vm.1 hgh).1⟩) hrow' (fun _ i j row av h1 h2=>?_) (fun i j row av h1 h2=>(hm i j row av h1 h2).1) (fun i j row av h1 h2=>(hm i j row av h1 h2).2.1);obtain⟨x,hx⟩:=(hm i j row av h1 h2).2.2;have:=hown.cells (g:=g) rfl _ x hx;rw[ig] at this;rw[hx,We];exact this
theorem oA{x:Value}{av:AV}(h:bL cx w tab L x av):RT w (fun b=>b<w.heap.size) x (nu av):=by
 cases av with
 | c v=>
  obtain rfl:=h.c_inv;exact .c x
 | sl sz rows=>exact h.sl_inv.mono (fun _ _=>rfl) fun b hb=>hb.1
 | rp cs=>exact(show RT w (Sx cx w tab L) x (.rp cs) by cases h with|tree h=>exact h).mono (fun _ _=>rfl) fun b hb=>hb.1
 | _=>exact .any _
theorem J4(hL:iM cx w tab L){x:Value}{av:AV}(h:bL cx w tab L x av):RT w (fun b=>b<w.heap.size) x (o6 tab av):=by
 cases av with
 | osl id=>
  unfold o6;simp only;split
  .rename_i e sz rows hid;rw[(oE hL hid h).1];exact zH (hL.objs id _ hid)
  .rename_i e sz rows hid;rw[(kg hL hid h).1];exact vi nu (fun x av h=>oA h) (hL.objs id _ hid)
  .exact .any _
 | c v=>exact oA h
 | sl sz rows=>exact oA h
 | rp cs=>exact oA h
 | _=>exact .any _
theorem dJ(hL:iM cx w tab L){x:Value}{av:AV}(h:bL cx w tab L x av):RT w (fun b=>b<w.heap.size) x (f8 tab av):=by
 cases av with
 | osl id=>
  unfold f8;simp only;split
  .rename_i e sz rows hid;rw[h.osl_inv _ _ (cN hid)];exact zH (hL.objs id _ hid)
  .rename_i e sz rows hid;rw[(kg hL hid h).1];exact vi (o6 tab) (fun x av h=>J4 hL h) (hL.objs id _ hid)
  .exact .any _
 | op=>exact .any _
 | agg=>exact .any _
 | tup=>exact .any _
 | fn=>exact .any _
 | bfn=>exact .any _
 | _=>
  cases h with
  | tree h=>exact h.mono (fun _ _=>rfl) (fun b hb=>hb.1)
theorem A7(hL:iM cx w tab L){x:Value}{av:AV}(h:bL cx w tab L x av):RT w (fun b=>b<w.heap.size) x (gL tab av):=by
 cases av with
 | agg cs=>
  obtain⟨xs,rfl,hn,hr⟩:=h.agg_inv;refine .agg xs _ (by simpa using hn) fun j x av h1 h2=>?_;rw[UV] at h2
  cases hj:cs[j]? with
  | none=>simp[hj] at h2
  | some av'=>
   simp[hj] at h2;subst h2;exact dJ hL (hr j x av' h1 hj)
 | op id i j=>
  unfold gL;simp only;split
  .rename_i t cells hid;split
   .rename_i h0;subst h0;obtain⟨g,hg,rfl⟩:=h.op_inv _ _ (cN hid);have hob:=hL.objs id _ hid;rw[W5,We]
    have key:∀k av,((cells.drop j).map (f8 tab))[k]? = some av->∃u,w.cell? ⟨g,j+k,none⟩=some u/\RT w (fun b=>b<w.heap.size) u av:=fun k av hk=>by
     rw[UV,VJ] at hk
     cases hc:cells[j+k]? with
     | none=>simp[hc] at hk
     | some av'=>
      simp[hc] at hk;subst hk;obtain⟨u,h1,h2⟩:=p6 hob hg (j+k) av' hc;exact⟨u,h1,dJ hL h2⟩
    refine .rp g j _ (fun k=>(w.cell? ⟨g,j+k,none⟩).getD undef) (hob.ge hg).2 (fun k av hk=>?_) (fun k av hk=>?_)
    .obtain ⟨u,h1,h2⟩:=key k av hk;simp[h1]
    .obtain ⟨u,h1,h2⟩:=key k av hk;simpa[h1] using h2
   .exact .any _
  .rename_i e sz rows hid;split
   .rename_i hi;obtain⟨g,hg,rfl⟩:=h.op_inv _ _ (cN hid);have hob:=hL.objs id _ hid
    have key:∀k av,((rows[i]?.getD []).drop j)[k]? = some av->∃u,w.cell? ⟨g,i * sz+j+k,none⟩=some u/\RT w (fun b=>b<w.heap.size) u av:=fun k av hk=>by
     rw[VJ] at hk;obtain⟨u,h1,h2⟩:=p5 hob hg hi (j+k) av hk;rw[<- Ww] at h1;exact⟨u,h1,h2.mono (fun _ _=>rfl) (fun b hb=>hb.1)⟩
    refine .rp g (i * sz+j) _ (fun k=>(w.cell? ⟨g,i * sz+j+k,none⟩).getD undef) (hob.ge hg).2 (fun k av hk=>?_) (fun k av hk=>?_)
    .obtain ⟨u,h1,h2⟩:=key k av hk;simp[h1]
    .obtain ⟨u,h1,h2⟩:=key k av hk;simpa[h1] using h2
   .exact .any _
  .exact .any _
 | osl id=>exact dJ hL h
 | tup=>exact .any _
 | fn=>exact .any _
 | bfn=>exact .any _
 | any=>exact dJ hL h
 | c v=>exact dJ hL h
 | sl sz rows=>exact dJ hL h
 | rp cs=>exact dJ hL h
theorem Eh(hL:iM cx w tab L){x:Value}{av:AV}(h:bL cx w tab L x av):RT w (fun b=>b<w.heap.size) x (gj tab av):=by
 cases av with
 | agg cs=>
  obtain⟨xs,rfl,hn,hr⟩:=h.agg_inv;refine .agg xs _ (by simpa using hn) fun j x av h1 h2=>?_;rw[UV] at h2
  cases hj:cs[j]? with
  | none=>simp[hj] at h2
  | some av'=>
   simp[hj] at h2;subst h2;exact dJ hL (hr j x av' h1 hj)
 | op id i j=>
  unfold gj;simp only;split
  .rename_i t cells hid;split
   .rename_i h0;subst h0;obtain⟨g,hg,rfl⟩:=h.op_inv _ _ (cN hid);have hob:=hL.objs id _ hid;rw[W5,We]
    have key:∀k av,((cells.drop j).map (f8 tab))[k]? = some av->∃u,w.cell? ⟨g,j+k,none⟩=some u/\RT w (fun b=>b<w.heap.size) u av:=fun k av hk=>by
     rw[UV,VJ] at hk
     cases hc:cells[j+k]? with
     | none=>simp[hc] at hk
     | some av'=>
      simp[hc] at hk;subst hk;obtain⟨u,h1,h2⟩:=p6 hob hg (j+k) av' hc;exact⟨u,h1,dJ hL h2⟩
    refine .rp g j _ (fun k=>(w.cell? ⟨g,j+k,none⟩).getD undef) (hob.ge hg).2 (fun k av hk=>?_) (fun k av hk=>?_)
    .obtain ⟨u,h1,h2⟩:=key k av hk;simp[h1]
    .obtain ⟨u,h1,h2⟩:=key k av hk;simpa[h1] using h2
   .exact .any _
  .rename_i e sz rows hid;split
   .rename_i hi;obtain⟨g,hg,rfl⟩:=h.op_inv _ _ (cN hid);have hob:=hL.objs id _ hid
    have key:∀k av,((rows[i]?.getD []).drop j)[k]? = some av->∃u,w.cell? ⟨g,i * sz+j+k,none⟩=some u/\RT w (fun b=>b<w.heap.size) u av:=fun k av hk=>by
     rw[VJ] at hk;obtain⟨u,h1,h2⟩:=p5 hob hg hi (j+k) av hk;rw[<- Ww] at h1;exact⟨u,h1,h2.mono (fun _ _=>rfl) (fun b hb=>hb.1)⟩
    refine .rp g (i * sz+j) _ (fun k=>(w.cell? ⟨g,i * sz+j+k,none⟩).getD undef) (hob.ge hg).2 (fun k av hk=>?_) (fun k av hk=>?_)
    .obtain ⟨u,h1,h2⟩:=key k av hk;simp[h1]
    .obtain ⟨u,h1,h2⟩:=key k av hk;simpa[h1] using h2
   .exact .any _
  .exact .any _
 | osl id=>exact dJ hL h
 | tup=>exact .any _
 | fn f cs=>
  obtain⟨xs,rfl,hn,hr⟩:=h.fn_inv;refine .fn f xs _ (by simpa using hn) fun j x av h1 h2=>?_;rw[UV] at h2
  cases hj:cs[j]? with
  | none=>simp[hj] at h2
  | some av'=>
   simp[hj] at h2;subst h2;exact A7 hL (hr j x av' h1 hj)
 | bfn f cs=>
  obtain⟨xs,rfl,hn,hr⟩:=h.bfn_inv;refine .bfn f xs _ (by simpa using hn) fun j x av h1 h2=>?_;rw[UV] at h2
  cases hj:cs[j]? with
  | none=>simp[hj] at h2
  | some av'=>
   simp[hj] at h2;subst h2;exact A7 hL (hr j x av' h1 hj)
 | any=>exact dJ hL h
 | c v=>exact dJ hL h
 | sl sz rows=>exact dJ hL h
 | rp cs=>exact dJ hL h
theorem Om{x:Value}{av:AV}(h:bL cx w tab L x av)(hr:pi av):RT w (Sx cx w tab L) x (gj tab av):=by
 cases av with
 | agg cs=>
  obtain⟨xs,rfl,hn,hx⟩:=h.agg_inv;refine .agg xs _ (by simpa using hn) fun j x av h1 h2=>?_;rw[UV] at h2
  cases hj:cs[j]? with
  | none=>simp[hj] at h2
  | some av'=>
   simp[hj] at h2;subst h2;have ht:=dG.1 hr av' (r2 hj);have:=dH (hx j x av' h1 hj) ht;cases av'<;>first|exact ht.elim|exact this
 | osl=>exact hr.elim
 | op=>exact hr.elim
 | tup=>exact hr.elim
 | fn f cs=>
  obtain⟨xs,rfl,hn,hx⟩:=h.fn_inv;refine .fn f xs _ (by simpa using hn) fun j x av h1 h2=>?_;rw[UV] at h2
  cases hj:cs[j]? with
  | none=>simp[hj] at h2
  | some av'=>
   simp[hj] at h2;subst h2;have ht:=dG.1 hr av' (r2 hj);have:=dH (hx j x av' h1 hj) ht;cases av'<;>first|exact ht.elim|exact this
 | bfn f cs=>
  obtain⟨xs,rfl,hn,hx⟩:=h.bfn_inv;refine .bfn f xs _ (by simpa using hn) fun j x av h1 h2=>?_;rw[UV] at h2
  cases hj:cs[j]? with
  | none=>simp[hj] at h2
  | some av'=>
   simp[hj] at h2;subst h2;have ht:=dG.1 hr av' (r2 hj);have:=dH (hx j x av' h1 hj) ht;cases av'<;>first|exact ht.elim|exact this
 | any=>exact dH h trivial
 | c v=>exact dH h trivial
 | sl sz rows=>exact dH h trivial
 | rp cs=>exact dH h trivial
theorem yC{f:FuncId}{vs:Array Value}{avs:List AV}{K:AV->aj->Prop}(h:aH cx a w st L)(hn:vs.size=avs.length)(hv:∀(j:Nat)(v:Value)(av:AV),vs[j]? = some v->avs[j]? = some av->bL cx w st.tab L v av)(hK:BK P st f avs K)(dst:Option Nat) :
  Calls P f vs w fun e w'=>∃v av st' L',e=.returned v/\K av st' /\ aH cx (a.put dst v) w' (st'.put dst av) L' /\ Below w.heap.size w w' /\ (∀id,id<st.next->st'.tab.get id=st.tab.get id/\L' id=L id)/\(∀id o g,st.next<=id->st'.tab.get id=some o->aL (L' id)=some g->w.heap.size<=g)/\st.next<=st'.next:=by
 obtain⟨Post,⟨_,hdet⟩,hK⟩:=hK
 obtain⟨S,hS1,hS2,hSv⟩:∃S:Nat->Prop,FJ w S/\((∀b,S b->Sx cx w st.tab L b)\/¬m8 avs)/\∀(j:Nat)(v:Value)(av:AV),vs[j]? = some v->(avs.map (gj st.tab))[j]? = some av->RT w S v av:=by
  by_cases hro:m8 avs
  .refine ⟨Sx cx w st.tab L,h.lay.sok,.inl fun b hb=>hb,fun j v av h1 h2=>?_⟩;rw[UV] at h2
   cases hj:avs[j]? with
   | none=>simp[hj] at h2
   | some av'=>
    simp[hj] at h2;subst h2;exact Om (hv j v av' h1 hj) (xr.1 hro av' (r2 hj))
  .refine ⟨fun b=>b<w.heap.size,⟨fun b hb=>hb,h.lay.amb,fun b hb=>UY hb h.lay.amb.le⟩,.inr hro,fun j v av h1 h2=>?_⟩;rw[UV] at h2
   cases hj:avs[j]? with
   | none=>simp[hj] at h2
   | some av'=>
    simp[hj] at h2;subst h2;exact Eh h.lay (hv j v av' h1 hj)
 refine(hdet S w vs hS1 (by simpa using hn) hSv).mono ?_;rintro e w' ⟨v,L2,R,hPost,hok,rfl,hlay,hr⟩;obtain⟨hro,hK⟩:=hK R hPost
 have hS2:(∀b,S b->Sx cx w st.tab L b)\/(R.r.plain/\R.tab.plain):=by
  rcases hro with hro|hp
  .exact .inl (hS2.resolve_right fun hn=>hn hro)
  .exact .inr hp
 have hbw:cx.w0.heap.size<=w.heap.size:=h.lay.below.size;have hbel:Below w.heap.size w w':=hlay.below.below fun b hb=>hb;have hget:=mK (tab:=st.tab) (k:=st.next) (fun id o hid=>(h.young id o hid).1) R.tab
 let L':Nat->Value:=fun id=>if id<st.next then L id else L2 (id-st.next)
 have hL1:∀id,id<st.next->L' id=L id:=fun id hid=>UZ hid;have hL2:∀id,¬id<st.next->L' id=L2 (id-st.next):=fun id hid=>UX hid
 have hnew:∀id o,st.next<=id->(R.tab.shift st.next ++ st.tab).get id=some o->∃o',R.tab.get (id-st.next)=some o' /\ o=o'.shift st.next:=fun id o h1 h2=>by
  rw[hget,UX (by omega)] at h2
  cases ho:R.tab.get (id-st.next) with
  | none=>simp[ho] at h2
  | some o'=>
   simp[ho] at h2;exact⟨o',rfl,h2.symm⟩
 have hge:∀id o g,R.tab.get id=some o->aL (L2 id)=some g->w.heap.size<=g:=fun id o g h1 h2=>((hlay.objs id o h1).ge h2).1;have hold:∀id,id<st.next->(R.tab.shift st.next ++ st.tab).get id=st.tab.get id/\L' id=L id:=fun id hid=>⟨by rw[hget,UZ hid],hL1 id hid⟩
 have hnew':∀id o g,st.next<=id->(R.tab.shift st.next ++ st.tab).get id=some o->aL (L' id)=some g->w.heap.size<=g:=fun id o g h1 h2 h3=>by
  obtain⟨o',ho,_⟩:=hnew id o h1 h2;rw[hL2 id (by omega)] at h3;exact hge _ o' g ho h3
 have hext:lG cx w st.tab L st.next w' (R.tab.shift st.next ++ st.tab) L':=gP hbel hold (fun id o hid=>(h.young id o hid).1) hnew';have hsz:∀(o:aB) k,(o.shift k).sz=o.sz:=fun o k=>by cases o<;>simp[aB.shift,aB.sz,bl]
 have hKx:∀id p,Kx (R.tab.shift st.next ++ st.tab) L' (id+st.next)=some p->Kx R.tab L2 id=some p:=fun id p hk=>by
  unfold Kx at *;rw[hget,UX (by omega),hL2 _ (by omega),Wm] at hk
  cases ho:R.tab.get id with
  | none=>simp[ho] at hk
  | some o=>simpa[ho,hsz] using hk
 have hsub:(∀b,Sx (Cx.mk0 S w hS1) w' R.tab L2 b->Sx cx w' (R.tab.shift st.next ++ st.tab) L' b)\/(R.r.plain/\R.tab.plain):=by
  rcases hS2 with hS2|hp
  .refine .inl fun b hb=>⟨hb.1,?_,fun id o hid hg=>?_⟩
   .rcases hb.2.1.1 with h1|h1
    .exact (hS2 b h1).2.1
    .exact ⟨.inr (Vj hbw h1),fun hX=>absurd (h.lay.ex b hX).1 (Nat.not_lt.2 h1)⟩
   .by_cases hlt:id<st.next
    .rw [hget,UZ hlt] at hid;rw[hL1 id hlt] at hg;rcases hb.2.1.1 with h1|h1
     .exact (hS2 b h1).2.2 id o hid hg
     .have:=((h.lay.objs id o hid).ge hg).2;have h1:w.heap.size<=b:=h1;omega
    .obtain ⟨o',ho,_⟩:=hnew id o (by omega) hid;rw[hL2 id hlt] at hg;exact hb.2.2 _ o' ho hg
  .exact .inr hp
 refine⟨v,R.r.shift st.next,{ st with tab:=R.tab.shift st.next ++ st.tab,next:=st.next+R.n },L',rfl,hK,fJ h (kE h.lay h.young hbel hold (fun id o h1 h2=>?_) hnew' fun id id' o o' g h1 h2 h3 h4 h5 h6=>?_) hext (WO _ _) (fun id o hid=>?_) (hr.conv (hsub.imp (fun h=>h) (·.1)) hKx) (iw hok.lt) dst,hbel,hold,hnew',WO _ _⟩
 .obtain ⟨o',ho,rfl⟩:=hnew id o h1 h2;rw[hL2 id (by omega)];have hob:=hlay.objs _ o' ho;have hpl:R.tab.plain->o'.plain:=fun hp=>qk hp ho
  cases o' with
  | box t cells=>
   obtain⟨g,cs,h3,h4,h5,h6,h7⟩:=hob;refine⟨g,cs,h3,Vj hbw h4,h5,by simpa[bl] using h6,fun j x av h8 h9=>?_⟩;rw[bl,UV] at h9
   cases hj:cells[j]? with
   | none=>simp[hj] at h9
   | some av'=>
    simp[hj] at h9;subst h9;exact⟨(h7 j x av' h8 hj).1.conv (hsub.imp (fun h=>h) fun hp=>dN.1 (hpl hp.2) _ (r2 hj)) hKx,(h7 j x av' h8 hj).2⟩
  | row e sz rows=>
   obtain⟨h3,xs,hown,h5,h6⟩:=hob;refine⟨h3,xs,hown.base hbw,h5,fun i j row av h7 h8=>?_⟩;obtain⟨x,hx,hrt⟩:=h6 i j row av h7 h8;refine⟨x,hx,?_⟩;rcases hsub with hs|hp
   .exact hrt.mono (fun _ _=>rfl) hs
   .exact hrt.plain (hpl hp.2 row (r2 h7) av (r2 h8))
  | nest e sz rows=>
   obtain⟨h3,xs,hown,h5,h6⟩:=hob;refine⟨fun row hr=>?_,xs,by rw[Vd];exact hown.base hbw,h5,fun i j row av h7 h8=>?_⟩
   .obtain ⟨r,hr',rfl⟩:=U3.1 hr;rw[bl,Vd];exact h3 r hr'
   .rw [UV] at h7
    cases hi:rows[i]? with
    | none=>simp[hi] at h7
    | some row'=>
     simp[hi] at h7;subst h7;rw[bl,UV] at h8
     cases hj:row'[j]? with
     | none=>simp[hj] at h8
     | some av'=>
      simp[hj] at h8;subst h8;obtain⟨x,h9,h10⟩:=h6 i j row' av' hi hj;exact⟨x,h9,h10.conv (hsub.imp (fun h=>h) fun hp=>hpl hp.2 row' (r2 hi) av' (r2 hj)) hKx⟩
  | map ents=>
   obtain⟨g,es,ck,h3,h4,h5,h6⟩:=hob;exact⟨g,es,ck,h3,Vj hbw h4,h5,h6⟩
  | ghost vs env=>
   refine⟨hob.1,fun t ht=>?_⟩;rw[i8];exact(hob.2 t ht).conv (hsub.imp (fun h=>h) fun hp=>(hpl hp.2).elim) hKx
 .obtain ⟨o1,ho1,_⟩:=hnew id o h1 h3;obtain⟨o2,ho2,_⟩:=hnew id' o' h2 h4;rw[hL2 id (by omega)] at h5;rw[hL2 id' (by omega)] at h6;have:=hlay.sep _ _ o1 o2 g ho1 ho2 h5 h6;omega
 .by_cases hlt:id<st.next
  .rw [hget,UZ hlt] at hid;have hy:=h.young id o hid;refine⟨by omega,?_⟩
   cases o with
   | box t cells=>exact ah.2 fun x hx=>AV.lt_mono (WO _ _) (ah.1 hy.2 x hx)
   | row=>trivial
   | map=>trivial
   | nest e sz rows=>exact fun row hr=>ah.2 fun x hx=>AV.lt_mono (WO _ _) (ah.1 (hy.2 row hr) x hx)
   | ghost vs env=>exact dQ (WO _ _) hy.2
  .obtain ⟨o',ho,rfl⟩:=hnew id o (by omega) hid;have hy:=hok.young _ o' ho;refine⟨by omega,?_⟩
   cases o' with
   | box t cells=>
    simp only[aB.shift,aB.lt,bl];refine ah.2 fun x hx=>?_;obtain⟨y,hy',rfl⟩:=U3.1 hx;exact iw (ah.1 hy.2 y hy')
   | row=>trivial
   | nest e sz rows=>
    intro row hr;obtain⟨r,hr',rfl⟩:=U3.1 hr;rw[bl];refine ah.2 fun x hx=>?_;obtain⟨y,hy',rfl⟩:=U3.1 hx;exact iw (ah.1 (hy.2 r hr') y hy')
   | map=>trivial
   | ghost vs env=>exact lJ hy.2
theorem yB(h:aH cx a w st L)(hb:Below w.heap.size w w'):aH cx a w' st L:=by
 have hext:lG cx w st.tab L st.next w' st.tab L:=gP hb (fun id _=>⟨rfl,rfl⟩) (fun id o hid=>(h.young id o hid).1) (fun id o g h1 h2 _=>by have:=(h.young id o h2).1;omega);refine⟨kE h.lay h.young hb (fun id _=>⟨rfl,rfl⟩) (fun id o h1 h2=>?_) (fun id o g h1 h2 _=>?_) (fun id id' o o' g h1 _ h2 _ _ _=>?_),h.size,h.defers.mono hext.blk hext.sub,h.young,fun t=>⟨hext.rv (h.env t).1 (h.env t).2,(h.env t).2⟩⟩
 .have:=(h.young id o h2).1;omega
 .have:=(h.young id o h2).1;omega
 .have:=(h.young id o h2).1;omega
theorem oT{f:FuncId}{vs:Array Value}{avs:List AV}{K:AV->aj->Prop}(h:aH cx a w st L)(hn:vs.size=avs.length)(hv:∀(j:Nat)(v:Value)(av:AV),vs[j]? = some v->avs[j]? = some av->bL cx w st.tab L v av)(hK:pZ P st f avs K)(dst:Option Nat) :
  Calls P f vs w fun e w'=>∃v av st' L',e=.returned v/\K av st' /\ aH cx (a.put dst v) w' (st'.put dst av) L' /\ Below w.heap.size w w' /\ (∀id,id<st.next->st'.tab.get id=st.tab.get id/\L' id=L id)/\(∀id o g,st.next<=id->st'.tab.get id=some o->aL (L' id)=some g->w.heap.size<=g)/\st.next<=st'.next:=by
 rcases hK with hK|⟨_,v,hK,hs⟩
 .exact yC h hn hv hK dst
 .refine (hs cx a w L vs h hn hv).mono fun e w' ⟨h1,h2⟩=>⟨v,.c v,st,L,h1,hK,bh (yB h h2) (.tree (.c v)) trivial dst,h2,fun id _=>⟨rfl,rfl⟩,fun id o g h3 h4 _=>?_,UU _⟩;have:=(h.young id o h4).1;omega
theorem Bh{sz:Nat}{vals:List (List Value)}{xs:List Value}(hs:∀r∈vals,r.length=sz)(hl:xs.length=vals.length * sz)(hx:∀(i j:Nat)(hi:i<vals.length)(hj:j<(vals[i]).length),xs[i * sz+j]? = some (vals[i])[j]):xs=vals.flatten:=by
 have hfl:vals.flatten.length=vals.length * sz:=by
  have:=jt id sz vals hs
  rwa [Xx] at this
 apply VS;intro k;by_cases hk:k<vals.length * sz
 .have h0:0<sz:=by
   rcases Xa sz with h|h
   .subst h;omega
   .exact h
  have hi:k / sz<vals.length:=(Nat.div_lt_iff_lt_mul h0).2 hk;have hj:k % sz<sz:=Nat.mod_lt _ h0;have e:k=k / sz * sz+k % sz:=by rw[Nat.mul_comm];exact(Nat.div_add_mod k sz).symm
  have hj':k % sz<(vals[k / sz]).length:=by rw[hs _ (UQ hi)];exact hj
  have h1:=hx (k / sz) (k % sz) hi hj';have h2:=lK id sz vals hs (k / sz) (k % sz) hi hj;rw[Xx] at h2;rw[<- e] at h1 h2;rw[h1,h2];exact(p0 hj').symm
 .rw [Vh (by omega),Vh (by omega)]
theorem P8{f:FuncId}{vs:Array Value}{avs:List AV}{K:AV->aj->Prop}(h:aH cx a w st L)(hn:vs.size=avs.length)(hv:∀(j:Nat)(v:Value)(av:AV),vs[j]? = some v->avs[j]? = some av->bL cx w st.tab L v av)(hK:Tk P st f avs K)(dst:Option Nat) :
  Calls P f vs w fun e w'=>∃v av st' L',e=.returned v/\K av st' /\ aH cx (a.put dst v) w' (st'.put dst av) L' /\ Fr cx w st.tab L st.next w' st'.tab L' st'.next:=by
 obtain⟨id,e,sz,vals,rest,vals',rfl,hid,hupd,hval,hk⟩:=hK
 have hvs:∃v,vs=(v :: rest).toArray/\v=L id:=by
  simp only[Vl,Vd] at hn;have h0:0<vs.size:=by omega
  refine⟨vs[0],?_,(hv 0 _ _ (UT h0) rfl).osl_inv _ _ (cN hid)⟩;apply XB
  .simp [hn]
  .intro k h1 h2
   cases k with
   | zero=>rfl
   | succ k=>
    have hk':k<rest.length:=by simp at h2;omega
    have:=(hv (k+1) vs[k+1] (.c rest[k]) (UT h1) (by simp[hk'])).c_inv;simpa using this
 obtain⟨v,rfl,hvL⟩:=hvs;have hbase:cx.w0.heap.size<=w.heap.size:=h.lay.below.size;obtain⟨hrow,xs,hown,hone,hx⟩:=h.lay.objs id _ hid
 have hs:∀r∈vals,r.length=sz:=fun r hr=>by
  have:=hrow (r.map .c) (U3.2 ⟨r,hr,rfl⟩);simpa using this
 have hxs:xs=vals.flatten:=Bh hs (by simpa[i5] using hown.1) fun i j hi hj=>by
  obtain⟨x,hx1,hx2⟩:=hx i j ((vals[i]).map .c) (.c (vals[i])[j]) (by simp[i5,hi]) (by simp[hj]);rw[hx1];cases hx2;rfl
 subst hxs;have hown:fc w cx.w0.heap.size e sz v vals.length vals.flatten:=by rw[hvL];simpa[i5] using hown
 refine(hupd.2 w v _ hown).mono ?_;rintro ex w' ⟨v',rfl,hown',hgrow,hblk⟩
 have vb:∀{x:Value} {n:Nat} {l:List Value} {w:World},fc w cx.w0.heap.size e sz x n l->aL x=x.ownBlock:=fun hh=>by
  rcases hh.2 with ⟨rfl,_⟩|⟨g,cap,cur,rfl,_⟩<;>rfl
 have hvb:=vb hown;have hvb':=vb hown';have hold_block:∀g,v.ownBlock=some g->∃id',some id=some id' /\ st.tab.get id'=some (.row e sz (i5 vals))/\aL (L id')=some g:=fun g hg=>⟨id,rfl,hid,by rw[<- hvL,hvb];exact hg⟩;have hy':=h.young
 have hget:∀k,k<st.next->(bO st.tab st.next (some id) (.row e sz (i5 vals'))).get k=if (some id)=some k then none else st.tab.get k:=fun k hk=>by
  rw[bH,UX (by omega)]
 have hgetS:∀k o,(bO st.tab st.next (some id) (.row e sz (i5 vals'))).get k=some o->(k=st.next/\o=.row e sz (i5 vals'))\/(k<st.next/\(some id)≠some k/\st.tab.get k=some o):=fun k o hk=>by
  rw[bH] at hk;split at hk
  .rename_i e';cases hk;exact .inl ⟨e',rfl⟩
  .split at hk
   .cases hk
   .rename_i h1;exact .inr ⟨(hy' k o hk).1,h1,hk⟩
 have hLn:∀k,k<st.next->bp L st.next v' k=L k:=fun k hk=>by unfold bp;rw[UX (by omega)]
 have hLx:bp L st.next v' st.next=v':=by simp[bp]
 -- the blocks of other objects
 have hother:∀k o g,k<st.next->(some id)≠some k->st.tab.get k=some o->aL (L k)=some g->some g≠v.ownBlock/\some g≠v'.ownBlock:=fun k o g hk hne ho hg=>by
  have h1:some g≠v.ownBlock:=fun e'=>by
   obtain⟨id',hid',hti,hbi⟩:=hold_block g e'.symm;exact hne (by rw[hid',h.lay.sep id' k _ o g hti ho hbi hg])
  refine⟨h1,fun e'=>?_⟩;exact h1 (by rw[e',hblk])
 have hext:lG cx w st.tab L st.next w' (bO st.tab st.next (some id) (.row e sz (i5 vals'))) (bp L st.next v'):=by
  refine⟨fun p hp=>hgrow.block p hp.1 fun e'=>?_,fun b hS=>⟨UY hS.1 hgrow.size,hS.2.1,fun k o hk hg=>?_⟩,fun k p hk hK=>?_⟩
  .obtain ⟨id',_,hti,hbi⟩:=hold_block p e'.symm;exact hp.2.2 id' _ hti hbi
  .rcases hgetS k o hk with ⟨rfl,_⟩|⟨hlt,_,ho⟩
   .rw [hLx,hvb'] at hg;rw[hblk] at hg;obtain⟨id',_,hti,hbi⟩:=hold_block b hg;exact hS.2.2 id' _ hti hbi
   .rw [hLn k hlt] at hg;exact hS.2.2 k o ho hg
  .unfold Kx at *;rw[hget k hk,hLn k hk] at hK;split at hK
   .cases hK
   .exact hK
 have hbel:b8 cx.X cx.w0.heap.size cx.w0 w':=h.lay.below.grown hgrow hbase fun k hk=>(hown.lt k hk).1;refine⟨v',.osl st.next,{ st with tab:=bO st.tab st.next (some id) (.row e sz (i5 vals')),next:=st.next+1 },bp L st.next v',rfl,hk,?_,hext,hgrow.size,fun k hk hne=>hgrow.block k hk fun e'=>?_,fun k o g hk hg hlt=>?_,VF _⟩
 rotate_left
 .obtain ⟨id',_,hti,hbi⟩:=hold_block k e'.symm;exact hne id' _ hti hbi
 .rcases hgetS k o hk with ⟨rfl,_⟩|⟨hlt',_,ho⟩
  .rw [hLx,hvb',hblk] at hg;obtain⟨id',_,hti,hbi⟩:=hold_block g hg;exact⟨id',_,hti,hbi⟩
  .rw [hLn k hlt'] at hg;exact⟨k,o,ho,hg⟩
 have hex:∀id2 o2 g,(bO st.tab st.next (some id) (.row e sz (i5 vals'))).get id2=some o2->aL (bp L st.next v' id2)=some g->g<w.heap.size->∃id3 o3,st.tab.get id3=some o3/\aL (L id3)=some g:=fun k ok g hk hg' hlt=>by
  rcases hgetS k ok hk with ⟨rfl,_⟩|⟨hlt',_,ho⟩
  .rw [hLx,hvb',hblk] at hg';obtain⟨id',_,hti,hbi⟩:=hold_block g hg';exact⟨id',_,hti,hbi⟩
  .rw [hLn k hlt'] at hg';exact⟨k,ok,ho,hg'⟩
 refine fJ h ⟨hbel,fun k o hk=>?_,fun k k' o o' g h1 h2 h3 h4=>?_,vf h.lay hgrow.size hex⟩ hext (VF _) (fun k o hk=>?_) ?_ (VT _) dst
 .rcases hgetS k o hk with ⟨rfl,rfl⟩|⟨hlt,hne,ho⟩
  .rw [hLx];refine⟨fun row hr=>?_,vals'.flatten,by simpa[i5] using hown',fun x hx=>?_,fun i j row av h1 h2=>?_⟩
   .obtain ⟨r,hr',rfl⟩:=U3.1 hr;simpa using (hval r hr').1
   .obtain ⟨r,hr',hx⟩:=List.mem_flatten.1 hx;exact(hval r hr').2 x hx
   .unfold i5 at h1;rw[UV] at h1
    have hi':i<vals'.length:=by
     rcases U9 i vals'.length with hlt|hge
     .exact hlt
     .rw [Vh hge] at h1;cases h1
    rw[p0 hi'] at h1;simp only[Vz,Xh] at h1;subst h1
    have hj:j<(vals'[i]).length:=by
     have:=(US.1 h2).1;simpa using this
    have hsz:=(hval _ (UQ hi')).1;rw[UV,p0 hj] at h2;cases h2;have hg:=lK (_root_.id) sz vals' (fun a ha=>(hval a ha).1) i j hi' (by omega);rw[Xx] at hg;exact⟨_,hg.trans (p0 hj),.c _⟩
  .rw [hLn k hlt];have hob:=h.lay.objs k o ho;exact hext.obj hob (hy' k o ho).2 fun g hg=>hgrow.block g (hob.ge hg).2 (hother k o g hlt hne ho hg).1
 .rcases hgetS k o h1 with ⟨rfl,rfl⟩|⟨hlt,hne,ho⟩<;>rcases hgetS k' o' h2 with ⟨rfl,rfl⟩|⟨hlt',hne',ho'⟩
  .rfl
  .rw [hLx,hvb'] at h3;rw[hLn k' hlt'] at h4;exact absurd h3.symm (hother k' o' g hlt' hne' ho' h4).2
  .rw [hLx,hvb'] at h4;rw[hLn k hlt] at h3;exact absurd h4.symm (hother k o g hlt hne ho h3).2
  .rw [hLn k hlt] at h3;rw[hLn k' hlt'] at h4;exact h.lay.sep k k' o o' g ho ho' h3 h4
 .rcases hgetS k o hk with ⟨rfl,rfl⟩|⟨hlt,_,ho⟩
  .exact ⟨VT _,trivial⟩
  .refine ⟨by omega,?_⟩;have:=(hy' k o ho).2
   cases o with
   | box t cells=>exact ah.2 fun x hx=>AV.lt_mono (VF _) (ah.1 this x hx)
   | row=>trivial
   | nest e sz rows=>exact fun row hr=>ah.2 fun x hx=>AV.lt_mono (VF _) (ah.1 (this row hr) x hx)
   | map=>trivial
   | ghost vs env=>exact dQ (VF _) this
 .refine .osl _ _ fun sz' v'' hk=>?_;unfold Kx at hk;rw[bH,UZ rfl] at hk;simp at hk;rw[hLx] at hk;exact hk.2
theorem zf.mono{w w':World}{S S':Nat->Prop}{base:Nat}{e:TypeId}{sz:Nat}{v:Value}{rows:List (List AV)}(h:zf w S base e sz v rows)(hS:∀b,S b->S' b):zf w S' base e sz v rows:=
 ⟨h.1,h.2.elim fun xs ⟨h1,h2,h3⟩=>⟨xs,h1,h2,fun i j row av h4 h5=>(h3 i j row av h4 h5).elim fun x hx=>⟨x,hx.1,hx.2.mono (fun _ _=>rfl) hS⟩⟩⟩
theorem Qo{f:FuncId}{vs:Array Value}{avs:List AV}{K:AV->aj->Prop}(h:aH cx a w st L)(hn:vs.size=avs.length)(hv:∀(j:Nat)(v:Value)(av:AV),vs[j]? = some v->avs[j]? = some av->bL cx w st.tab L v av)(hK:Ue P st f avs K)(dst:Option Nat) :
  Calls P f vs w fun e w'=>∃v av st' L',e=.returned v/\K av st' /\ aH cx (a.put dst v) w' (st'.put dst av) L' /\ Fr cx w st.tab L st.next w' st'.tab L' st'.next:=by
 obtain⟨id,e,sz,rows,rows',rest,rfl,hid,htree,hmut,hk⟩:=hK;have hob:iu cx w st.tab L (L id) (.row e sz rows):=h.lay.objs id _ hid
 have hvs:∃vr:Array Value,vs = #[L id] ++ vr/\vr.size=rest.length/\∀(j:Nat)(x:Value)(av:AV),vr[j]? = some x->rest[j]? = some av->RT w (Sx cx w st.tab L) x av:=by
  simp only[Vl] at hn;have h0:0<vs.size:=by omega
  have hv0:vs[0]=L id:=(hv 0 _ _ (UT h0) rfl).osl_inv _ _ (cN hid);refine⟨vs.extract 1 vs.size,?_,by simp;omega,fun j x av h1 h2=>?_⟩
  .apply XB
   .simp;omega
   .intro k h1 h2
    cases k with
    | zero=>simpa using hv0
    | succ k=>simp[Nat.add_comm]
  .rw [Array.getElem?_extract] at h1;split at h1
   .exact r9 (hv (j+1) x av (by rw[Nat.add_comm];exact h1) (by simpa using h2)) (lw htree (r2 h2))
   .cases h1
 obtain⟨vr,rfl,hvn,hvr⟩:=hvs;have hbase:cx.w0.heap.size<=w.heap.size:=h.lay.below.size;refine(hmut.2 (Sx cx w st.tab L) w cx.w0.heap.size (L id) vr h.lay.sok cx.amb.le hob (fun g hg hS=>hS.2.2 id _ hid hg) hvn hvr).mono ?_;rintro ex w' ⟨rfl,⟨hos,htape,hout⟩,hsize,hkeep,hrow'⟩;have ht:∀k,ae.get ((id,some (aB.row e sz rows')) :: st.tab) k=if k=id then some (aB.row e sz rows') else st.tab.get k:=fun k=>ae.gc ..
 have hold:∀k ok,ae.get ((id,some (aB.row e sz rows')) :: st.tab) k=some ok->∃ok',st.tab.get k=some ok':=fun k ok hk'=>by
  rw[ht] at hk';split at hk'
  .rename_i e';exact⟨_,by rw[e'];exact hid⟩
  .exact ⟨ok,hk'⟩
 have hext:lG cx w st.tab L st.next w' ((id,some (aB.row e sz rows')) :: st.tab) L:=by
  refine⟨fun p hp=>hkeep p hp.1 (hp.2.2 id _ hid),fun b hb=>⟨UY hb.1 hsize,hb.2.1,fun k ok hk'=>?_⟩,fun k p hlt hp=>?_⟩
  .obtain ⟨ok',h1⟩:=hold k ok hk';exact hb.2.2 k ok' h1
  .unfold Kx at *;rw[ht] at hp;split at hp
   .rename_i e';subst e';rw[hid];simpa[aB.sz] using hp
   .exact hp
 have hy:=h.young id _ hid
 have hbel:b8 cx.X cx.w0.heap.size cx.w0 w':=h.lay.below.trans ⟨hos,htape,hout,hsize,fun k hk' _=>hkeep k (by omega) fun e'=>by
  have:=(hob.ge e').1;omega⟩
 have hnewS:∀b,(Sx cx w st.tab L b\/w.heap.size<=b)/\b<w'.heap.size->Sx cx w' ((id,some (aB.row e sz rows')) :: st.tab) L b:=fun b hb=>by
  rcases hb.1 with h1|h1
  .exact hext.sub b h1
  .refine ⟨hb.2,⟨.inr (by omega),fun hX=>?_⟩,fun k ok hk' hg=>?_⟩
   .have:=(h.lay.ex b hX).1;omega
   .obtain ⟨ok',h2⟩:=hold k ok hk';have:=((h.lay.objs k ok' h2).ge hg).2;omega
 have hex:∀id2 o2 g,ae.get ((id,some (aB.row e sz rows')) :: st.tab) id2=some o2->aL (L id2)=some g->g<w.heap.size->∃id3 o3,st.tab.get id3=some o3/\aL (L id3)=some g:=fun k ok g hk' hg' _=>by
  obtain⟨ok',h2⟩:=hold k ok hk';exact⟨k,ok',h2,hg'⟩
 refine⟨.tuple #[],.tup [],{ st with tab:=(id,some (.row e sz rows')) :: st.tab },L,rfl,hk,fJ (nx':=st.next) (L':=L) h ⟨hbel,fun k ok hk'=>?_,fun k k' ok ok' g' h1 h2 h3 h4=>?_,vf h.lay hsize hex⟩ hext (UU _) (fun k ok hk'=>?_) (.tree (.tup #[] [] rfl fun j x av h1 _=>by simp at h1)) (show AV.lt st.next (.tup []) from trivial) dst,hext,hsize,fun k hk' hn'=>hkeep k hk' (hn' id _ hid),fun k ok g h1 h2 h3=>hex k ok g h1 h2 h3,UU _⟩
 .rw [ht] at hk';split at hk'
  .rename_i e';subst e';cases hk';exact hrow'.mono (w':=w') hnewS
  .rename_i hne;exact hext.obj (h.lay.objs k ok hk') (h.young k ok hk').2 fun g' hg'=>hkeep g' ((h.lay.objs k ok hk').ge hg').2 fun e'=>hne (h.lay.sep k id ok _ g' hk' hid hg' e')
 .obtain ⟨o1,ho1⟩:=hold k ok h1;obtain⟨o2,ho2⟩:=hold k' ok' h2;exact h.lay.sep k k' o1 o2 g' ho1 ho2 h3 h4
 .rw [ht] at hk';split at hk'
  .rename_i e';cases hk';exact⟨by rw[e'];exact hy.1,trivial⟩
  .exact h.young k ok hk'
theorem EG{f:FuncId}{vs:Array Value}{avs:List AV}{K:AV->aj->Prop}(h:aH cx a w st L)(hn:vs.size=avs.length)(hv:∀(j:Nat)(v:Value)(av:AV),vs[j]? = some v->avs[j]? = some av->bL cx w st.tab L v av/\av.lt st.next)(hK:Eo P st f avs K)(dst:Option Nat) :
  Calls P f vs w fun e w'=>∃v av st' L',e=.returned v/\K av st' /\ aH cx (a.put dst v) w' (st'.put dst av) L' /\ Fr cx w st.tab L st.next w' st'.tab L' st'.next:=
 hK.elim (fun hp=>P8 h hn (fun j v av h1 h2=>(hv j v av h1 h2).1) hp dst) fun hK=>hK.elim (fun hp=>Qo h hn (fun j v av h1 h2=>(hv j v av h1 h2).1) hp dst) fun hp=>hp.2 cx a w L vs dst h hn hv
end
def cu.frz(R:cu)(id:Nat):cu:=
 match R.tab.get id with
 | some (.row _ sz rows)=>⟨R.r.frz id sz rows,(id,none) :: bw id sz rows R.tab,R.n⟩
 | _=>R
def cu.frzs:cu->List Nat->cu
 | R,[]=>R
 | R,id :: ids=>cu.frzs (R.frz id) ids
theorem dp.frz{P:Program}{f:FuncId}{args:List AV}{Post:cu->Prop}(h:dp P f args Post)(id:Nat):dp P f args fun R=>∃R',Post R' /\ R=R'.frz id:=
 ⟨h.1,fun S w vs h1 h2 h3=>(h.2 S w vs h1 h2 h3).mono fun e w' ⟨v,L,R,h4,h5,h6,h7,h8⟩=>by
  have key:(R.frz id).Ok/\iM (Cx.mk0 S w h1) w' (R.frz id).tab L/\bL (Cx.mk0 S w h1) w' (R.frz id).tab L v (R.frz id).r:=by
   unfold cu.frz;split
   .rename_i e' sz rows hid;obtain⟨h9,h10⟩:=sQ h7 (fun k o hk=>(h5.young k o hk).2) hid;refine⟨⟨fun k o hk=>?_,nq h5.lt⟩,h9,h10 v _ h8 h5.lt⟩;simp only[ae.gc,dr] at hk;split at hk
    .cases hk
    .cases hg:R.tab.get k with
     | none=>simp[hg] at hk
     | some o'=>
      simp[hg] at hk;subst hk;exact⟨(h5.young k o' hg).1,nN (h5.young k o' hg).2⟩
   .exact ⟨h5,h7,h8⟩
  exact⟨v,L,R.frz id,⟨R,h4,rfl⟩,key.1,h6,key.2.1,key.2.2⟩⟩
theorem dp.drop{P:Program}{f:FuncId}{args:List AV}{Post:cu->Prop}(h:dp P f args Post):dp P f args fun R=>∃R',Post R' /\ ((R'.r.lt 0/\R=⟨R'.r,[],0⟩)\/(¬R'.r.lt 0/\R=R')):=
 ⟨h.1,fun S w vs h1 h2 h3=>(h.2 S w vs h1 h2 h3).mono fun e w' ⟨v,L,R,h4,h5,h6,h7,h8⟩=>by
  by_cases hl:R.r.lt 0
  .have hext:lG (Cx.mk0 S w h1) w' R.tab L 0 w' [] L:=⟨fun _ _=>rfl,fun b hb=>⟨hb.1,hb.2.1,fun k o hk=>(by cases hk)⟩,fun k p _ hk=>by simp[Kx,ae.get] at hk⟩;exact⟨v,L,⟨R.r,[],0⟩,⟨R,h4,.inl ⟨hl,rfl⟩⟩,⟨fun id o hk=>(by cases hk),hl⟩,h6,⟨h7.below,fun id o hk=>(by cases hk),fun id id' o o' g hk=>(by cases hk),fun b hb=>hb.elim⟩,hext.rv h8 hl⟩
  .exact ⟨v,L,R,⟨R,h4,.inr ⟨hl,rfl⟩⟩,h5,h6,h7,h8⟩⟩
theorem am.frzs{P:Program}{f:FuncId}{args:List AV}{R:cu}:∀(ids:List Nat){R:cu},am P f args R->am P f args (R.frzs ids)
 | [],_,h=>h
 | id :: ids,R,h=>am.frzs ids (R:=R.frz id) ((dp.frz h id).mono fun R' ⟨R'',h1,h2⟩=>by rw[h2,h1])
theorem am.still{P:Program}{f:FuncId}{args:List AV}{R:cu}{r:AV}(ids:List Nat)(h:am P f args R)(hr:(R.frzs ids).r=r)(hl:r.lt 0):am P f args ⟨r,[],0⟩:=
 (dp.drop (am.frzs (R:=R) ids h)).mono fun R' ⟨R'',h1,h2⟩=>by
  subst h1;rcases h2 with ⟨_,h2⟩|⟨h2,_⟩
  .rw [h2,hr]
  .exact absurd (hr ▸ hl) h2
theorem Ag{P:Program}{st:aj}{g:FuncId}{args:List AV}{K:AV->aj->Prop}{R:cu}(ids:List Nat)(h:am P g ((jU st ids args).map (gj (iA st ids).tab)) R)(ho:m8 (jU st ids args)\/(R.r.plain/\R.tab.plain))
  (hk:K (R.r.shift (iA st ids).next) { iA st ids with tab:=R.tab.shift (iA st ids).next ++ (iA st ids).tab,next:=(iA st ids).next+R.n }):gb none P st g args K:=
 .inr (.inl ⟨rfl,.inr ⟨ids,.inl ⟨_,h,fun R' hR=>by subst hR;exact⟨ho,hk⟩⟩⟩⟩)
end
section
def t7(P:Program)(t:TypeId):Option (TypeId×TypeId):=match P.underlying t with|some (.map k e)=>some (k,e)|_=>none
def wT:AV->Option Value
 | .c v=>some v
 | .agg cs=>match ta cs with
  | some vs=>some (.agg vs.toArray)
  | none=>none
 | _=>none
def LD(ents:List (Value×Value))(k:Value):Option Value->Prop
 | some v=>(k,v)∈ents
 | none=>∀e∈ents,e.1≠k
def Se(ents:List (Value×Value))(k v:Value)(ents':List (Value×Value)):Prop:=
 (∃j o,ents[j]? = some (k,o)/\ents'=ents.set j (k,v))\/((∀e∈ents,e.1≠k)/\ents'=ents ++ [(k,v)])
def JD(P:Program)(k:TypeId)(v:Value):Prop:=∃l,keyOf P k v=some l
structure xf(P:Program)(k:TypeId)(ents:List (Value×Value))(kv:Value):Prop where
 keyed:Maps.Keyed P k
 key:JD P k kv
 all:∀e∈ents,JD P k e.1
def Jp(st:aj)(r:Bool)(dst:Option Nat)(K:aj->Prop):Prop:=
 r=true/\K ({ st with tab:=(st.next,some (.map [])) :: st.tab,next:=st.next+1 }.put dst (.osl st.next))
def lI(ok:Bool)(z:Value):Option Value->AV
 | some v=>if ok=true then .tup [.c v,.c (.bool true)] else .c v
 | none=>if ok=true then .tup [.c z,.c (.bool false)] else .c z
def BB(P:Program)(kt et:TypeId)(ents:List (Value×Value))(kv:Option Value)(ok:Bool)(K:AV->Prop):Prop:=
 match kv,bQ P et with
 | some kv,some z=>xf P kt ents kv/\∀r,LD ents kv r->K (lI ok z r)
 | _,_=>False
def mM(P:Program)(t:TypeId)(tab:ae)(m k:AV)(ok:Bool)(K:AV->Prop):Prop:=
 match m with
 | .osl id=>match tab.get id,t7 P t with
  | some (.map ents),some (kt,et)=>BB P kt et ents (wT k) ok K
  | _,_=>False
 | _=>False
def ru(P:Program)(kt:TypeId)(st:aj)(id:Nat)(ents:List (Value×Value))(k v:Option Value)(K:aj->Prop):Prop:=
 match k,v with
 | some kv,some vv=>xf P kt ents kv/\∀ents',Se ents kv vv ents' -> K { st with tab:=(id,some (.map ents')) :: st.tab }
 | _,_=>False
def kX(P:Program)(t:TypeId)(st:aj)(m k v:AV)(K:aj->Prop):Prop:=
 match m with
 | .osl id=>match st.tab.get id,t7 P t with
  | some (.map ents),some (kt,_)=>ru P kt st id ents (wT k) (wT v) K
  | _,_=>False
 | _=>False
def uU(P:Program)(t:TypeId)(tab:ae)(m:AV)(K:AV->Prop):Prop:=
 match m with
 | .osl id=>match tab.get id,t7 P t with
  | some (.map ents),some _=>K (.c (.int .i64 ents.length))
  | _,_=>False
 | _=>False
def B7(P:Program)(tab:ae)(ev:Operand->AV)(args:List Operand)(ts:List TypeId)(K:AV->Prop):Prop:=
 match args,ts with
 | [x],[t]=>uU P t tab (ev x) K
 | _,_=>False
def r5(P:Program)(t:TypeId)(st:aj)(m:AV)(dst:Option Nat)(K:aj->Prop):Prop:=
 match m with
 | .osl id=>match st.tab.get id,t7 P t with
  | some (.map _),some _=>K ({ st with tab:=(id,some (.map [])) :: st.tab }.put dst .any)
  | _,_=>False
 | _=>False
def wu(P:Program)(st:aj)(args:List Operand)(ts:List TypeId)(dst:Option Nat)(K:aj->Prop):Prop:=
 match args,ts with
 | [x],[t]=>r5 P t st (bb st x) dst K
 | _,_=>False
section
variable {P:Program} {cx:Cx} {a:Act} {w w' w'':World} {st:aj} {tab tab' tab'':ae} {L L' L'':Nat->Value} {nx nx' nx'':Nat}
theorem Fr.refl:Fr cx w tab L nx w tab L nx:=⟨lG.refl ..,UU _,fun _ _ _=>rfl,fun id o g h1 h2 _=>⟨id,o,h1,h2⟩,UU _⟩
theorem Fr.trans(h:Fr cx w tab L nx w' tab' L' nx')(k:Fr cx w' tab' L' nx' w'' tab'' L'' nx''):Fr cx w tab L nx w'' tab'' L'' nx'':=
  ⟨⟨fun b hb=>(k.ext.blk b (h.ext.sub b hb)).trans (h.ext.blk b hb),fun b hb=>k.ext.sub b (h.ext.sub b hb),fun id p hid hp=>h.ext.loc id p hid (k.ext.loc id p (UY hid h.next) hp)⟩,
   Vj h.size k.size,
   fun j hj hn=>(k.keep j (UY hj h.size) fun id o h1 h2=>(h.young id o j h1 h2 hj).elim fun id2 ⟨o2,h3,h4⟩=>hn id2 o2 h3 h4).trans (h.keep j hj hn),
   fun id o g h1 h2 hg=>(k.young id o g h1 h2 (UY hg h.size)).elim fun id2 ⟨o2,h3,h4⟩=>h.young id2 o2 g h3 h4 hg,
   Vj h.next k.next⟩
theorem pa(hy:∀id o,tab.get id=some o->id<nx)(hb:Below w.heap.size w w')(hold:∀id,id<nx->tab'.get id=tab.get id/\L' id=L id)(hnew:∀id o g,nx<=id->tab'.get id=some o->aL (L' id)=some g->w.heap.size<=g)(hn:nx<=nx'):Fr cx w tab L nx w' tab' L' nx':=
 ⟨gP hb hold hy hnew,hb.size,fun k hk _=>hb.block k hk,fun id o g h1 h2 hg=>by
  rcases U9 id nx with hlt|hge
  .exact ⟨id,o,by rw[<- (hold id hlt).1];exact h1,by rw[<- (hold id hlt).2];exact h2⟩
  .exact absurd (hnew id o g hge h1 h2) (by omega),hn⟩
theorem OX(id:Nat):Fr cx w st.tab L st.next w (iD st id).tab L (iD st id).next:=by
 unfold iD;split
 .rename_i e sz rows hid
  have hget:∀k ok,ae.get ((id,none) :: bw id sz rows st.tab) k=some ok->∃ok',st.tab.get k=some ok' /\ ok.sz=ok'.sz:=fun k ok hk=>by
   rw[ae.gc,dr] at hk;split at hk
   .cases hk
   .cases hg:st.tab.get k with
    | none=>simp[hg] at hk
    | some o'=>
     simp[hg] at hk;exact⟨o',rfl,by rw[<- hk,JT]⟩
  refine⟨⟨fun _ _=>rfl,fun b hb'=>⟨hb'.1,hb'.2.1,fun k ok hk=>?_⟩,fun k p _ hk=>?_⟩,UU _,fun k hk hn=>rfl,fun k ok g h1 h2 _=>?_,UU _⟩
  .obtain ⟨ok',h1,_⟩:=hget k ok hk;exact hb'.2.2 k ok' h1
  .unfold Kx at *
   cases ho:ae.get ((id,none) :: bw id sz rows st.tab) k with
   | none=>simp[ho] at hk
   | some ok=>
    obtain⟨ok',h1,h2⟩:=hget k ok ho;rw[h1];simpa[ho,h2] using hk
  .obtain ⟨ok',h3,_⟩:=hget k ok h1;exact⟨k,ok',h3,h2⟩
 .exact Fr.refl
theorem rj:∀(ids:List Nat){st:aj},Fr cx w st.tab L st.next w (iA st ids).tab L (iA st ids).next
 | [],_=>Fr.refl
 | id :: ids,st=>(OX id).trans (rj ids (st:=iD st id))
theorem pt:∀(ids:List Nat)(st:aj),(iA st ids).next=st.next
 | [],_=>rfl
 | id :: ids,st=>by
  show(iA (iD st id) ids).next=_;rw[pt ids];unfold iD;split<;>rfl
theorem Lb{id k:Nat}{o:aB}(h:(iD st id).tab.get k=some o):∃o',st.tab.get k=some o':=by
 unfold iD at h;split at h
 .simp only[ae.gc] at h;rw[dr] at h;split at h
  .cases h
  .cases hg:st.tab.get k with
   | none=>rw[hg] at h;cases h
   | some o'=>exact⟨o',rfl⟩
 .exact ⟨o,h⟩
theorem zt:∀(ids:List Nat){st:aj}{k:Nat}{o:aB},(iA st ids).tab.get k=some o->∃o',st.tab.get k=some o'
 | [],_,_,o,h=>⟨o,h⟩
 | id :: ids,st,k,o,h=>by
  obtain⟨o1,h1⟩:=zt ids (st:=iD st id) h;exact Lb h1
end
section
variable {P:Program} {cx:Cx} {a:Act} {w w':World} {tab:ae} {st:aj} {L:Nat->Value} {nx:Nat}
mutual
theorem pE{tab':ae}{L':Nat->Value}{ren:List Nat}(hS:∀b,Sx cx w tab L b->Sx cx w tab' L' b)(hK:∀k p,Kx tab' L' k=some p->Kx tab L (ren.getD k 0)=some p) :
  ∀(r:AV)(v:Value),bL cx w tab L v (r.ren ren)->bL cx w tab' L' v r
 | .any,v,_=>.tree (.any v)
 | .c x,v,h=>by
  obtain rfl:=RV.c_inv (v:=x) h;exact .tree (.c v)
 | .sl sz rows,v,h=>.tree ((RV.sl_inv h).mono (fun _ _=>rfl) hS)
 | .osl id,v,h=>.osl v id fun sz u hk=>RV.osl_inv h sz u (hK id _ hk)
 | .agg cs,v,h=>by
  simp only[AV.ren,bu] at h;obtain⟨xs,rfl,hn,hr⟩:=h.agg_inv;exact .agg xs cs (by simpa using hn) fun j x av h1 h2=>oP hS hK cs j x av h2 (hr j x _ h1 (by simp[h2]))
 | .tup cs,v,h=>by
  simp only[AV.ren,bu] at h;obtain⟨xs,rfl,hn,hr⟩:=h.tup_inv;exact .tup xs cs (by simpa using hn) fun j x av h1 h2=>oP hS hK cs j x av h2 (hr j x _ h1 (by simp[h2]))
 | .fn f cs,v,h=>by
  simp only[AV.ren,bu] at h;obtain⟨xs,rfl,hn,hr⟩:=h.fn_inv;exact .fn f xs cs (by simpa using hn) fun j x av h1 h2=>oP hS hK cs j x av h2 (hr j x _ h1 (by simp[h2]))
 | .bfn f cs,v,h=>by
  simp only[AV.ren,bu] at h;obtain⟨xs,rfl,hn,hr⟩:=h.bfn_inv;exact .bfn f xs cs (by simpa using hn) fun j x av h1 h2=>oP hS hK cs j x av h2 (hr j x _ h1 (by simp[h2]))
 | .rp cs,v,h=>by
  have:RT w (Sx cx w tab L) v (.rp cs):=by
   cases h with
   | tree h=>exact h
  exact .tree (this.mono (fun _ _=>rfl) hS)
 | .op id i j,v,h=>.op v id i j fun sz u hk=>RV.op_inv h sz u (hK id _ hk)
theorem oP{tab':ae}{L':Nat->Value}{ren:List Nat}(hS:∀b,Sx cx w tab L b->Sx cx w tab' L' b)(hK:∀k p,Kx tab' L' k=some p->Kx tab L (ren.getD k 0)=some p) :
  ∀(l:List AV)(j:Nat)(v:Value)(av:AV),l[j]? = some av->bL cx w tab L v (av.ren ren)->bL cx w tab' L' v av
 | [],j,v,av,h,_=>by simp at h
 | a :: l,0,v,av,h,hr=>by
  simp at h;subst h;exact pE hS hK a v hr
 | a :: l,j+1,v,av,h,hr=>oP hS hK l j v av (by simpa using h) hr
end
mutual
theorem rJ{S S':Nat->Prop}{K K':Nat->Option (Nat×Value)}{ren:List Nat}(hS:∀b,S b->S' b)(hK:∀k p,K' k=some p->K (ren.getD k 0)=some p) :
  ∀(r:AV)(v:Value),RV w S K v (r.ren ren)->RV w S' K' v r
 | .any,v,_=>.tree (.any v)
 | .c x,v,h=>by
  obtain rfl:=RV.c_inv (v:=x) h;exact .tree (.c v)
 | .sl sz rows,v,h=>.tree ((RV.sl_inv h).mono (fun _ _=>rfl) hS)
 | .osl id,v,h=>.osl v id fun sz u hk=>RV.osl_inv h sz u (hK id _ hk)
 | .agg cs,v,h=>by
  simp only[AV.ren,bu] at h;obtain⟨xs,rfl,hn,hr⟩:=h.agg_inv;exact .agg xs cs (by simpa using hn) fun j x av h1 h2=>ke hS hK cs j x av h2 (hr j x _ h1 (by simp[h2]))
 | .tup cs,v,h=>by
  simp only[AV.ren,bu] at h;obtain⟨xs,rfl,hn,hr⟩:=h.tup_inv;exact .tup xs cs (by simpa using hn) fun j x av h1 h2=>ke hS hK cs j x av h2 (hr j x _ h1 (by simp[h2]))
 | .fn f cs,v,h=>by
  simp only[AV.ren,bu] at h;obtain⟨xs,rfl,hn,hr⟩:=h.fn_inv;exact .fn f xs cs (by simpa using hn) fun j x av h1 h2=>ke hS hK cs j x av h2 (hr j x _ h1 (by simp[h2]))
 | .bfn f cs,v,h=>by
  simp only[AV.ren,bu] at h;obtain⟨xs,rfl,hn,hr⟩:=h.bfn_inv;exact .bfn f xs cs (by simpa using hn) fun j x av h1 h2=>ke hS hK cs j x av h2 (hr j x _ h1 (by simp[h2]))
 | .rp cs,v,h=>by
  have:RT w S v (.rp cs):=by
   cases h with
   | tree h=>exact h
  exact .tree (this.mono (fun _ _=>rfl) hS)
 | .op id i j,v,h=>.op v id i j fun sz u hk=>RV.op_inv h sz u (hK id _ hk)
theorem ke{S S':Nat->Prop}{K K':Nat->Option (Nat×Value)}{ren:List Nat}(hS:∀b,S b->S' b)(hK:∀k p,K' k=some p->K (ren.getD k 0)=some p) :
  ∀(l:List AV)(j:Nat)(v:Value)(av:AV),l[j]? = some av->RV w S K v (av.ren ren)->RV w S' K' v av
 | [],j,v,av,h,_=>by simp at h
 | a :: l,0,v,av,h,hr=>by
  simp at h;subst h;exact rJ hS hK a v hr
 | a :: l,j+1,v,av,h,hr=>ke hS hK l j v av (by simpa using h) hr
end
theorem RT.ren{w:World}{S:Nat->Prop}{x:Value}{av:AV}(h:RT w S x av)(l:List Nat):av.ren l=av:=by
 have key:∀(xs:Array Value)(cs:List AV),xs.size=cs.length->(∀(j:Nat)(x:Value)(av:AV),xs[j]? = some x->cs[j]? = some av->av.ren l=av)->AV.renL l cs=cs:=fun xs cs hn ih=>by
  rw[bu];apply VS;intro j;rw[UV]
  cases hj:cs[j]? with
  | none=>rfl
  | some av=>
   have hlt:j<xs.size:=by rw[hn];exact(US.1 hj).1
   simp[ih j _ av (UT hlt) hj]
 induction h with
 | agg xs cs hn hr ih=>rw[AV.ren,key xs cs hn ih]
 | tup xs cs hn hr ih=>rw[AV.ren,key xs cs hn ih]
 | fn fi xs cs hn hr ih=>rw[AV.ren,key xs cs hn ih]
 | bfn fi xs cs hn hr ih=>rw[AV.ren,key xs cs hn ih]
 | _=>rfl
theorem RV.rename{w:World}{S S':Nat->Prop}{K K':Nat->Option (Nat×Value)}{l:List Nat}{m:Nat}{x:Value}{av:AV}(h:RV w S K x av)(hl:av.lt m)(hS:∀b,S b->S' b)(hK:∀id p,id<m->K' (l.getD id 0)=some p->K id=some p):RV w S' K' x (av.ren l):=by
 have sub:∀(xs:Array Value)(cs:List AV),AV.ltL m cs->(∀(j:Nat)(x:Value)(av:AV),xs[j]? = some x->cs[j]? = some av->av.lt m->RV w S' K' x (av.ren l))->∀(j:Nat)(x:Value)(av:AV),xs[j]? = some x->(cs.map (·.ren l))[j]? = some av->RV w S' K' x av:=fun xs cs hl ih j x av h1 h2=>by
  rw[UV] at h2
  cases hj:cs[j]? with
  | none=>simp[hj] at h2
  | some av'=>
   simp[hj] at h2;subst h2;exact ih j x av' h1 hj (ah.1 hl _ (r2 hj))
 induction h with
 | tree h=>
  rw[h.ren l];exact .tree (h.mono (fun _ _=>rfl) hS)
 | osl x id h=>exact .osl x _ fun sz v e=>h sz v (hK id _ hl e)
 | op x id i j h=>exact .op x _ i j fun sz v e=>h sz v (hK id _ hl e)
 | agg xs cs hn hr ih=>
  simp only[AV.ren,bu];exact .agg xs _ (by simpa using hn) (sub xs cs hl ih)
 | tup xs cs hn hr ih=>
  simp only[AV.ren,bu];exact .tup xs _ (by simpa using hn) (sub xs cs hl ih)
 | fn fi xs cs hn hr ih=>
  simp only[AV.ren,bu];exact .fn fi xs _ (by simpa using hn) (sub xs cs hl ih)
 | bfn fi xs cs hn hr ih=>
  simp only[AV.ren,bu];exact .bfn fi xs _ (by simpa using hn) (sub xs cs hl ih)
theorem QB{l:List Nat}{n m:Nat}:∀{av:AV},av.lt m->(∀j,j<m->l.getD j 0<n)->(av.ren l).lt n:=by
 intro av hl hj
 induction av using AV.rec (motive_2:=fun _=>True) (motive_3:=fun l2=>AV.ltL m l2->AV.ltL n (AV.renL l l2)) with
 | _=>simp_all [AV.lt,AV.ltL,AV.ren,AV.renL]
theorem lm{t k e:TypeId}(h:t7 P t=some (k,e)):P.underlying t=some (.map k e):=by
 unfold t7 at h;split at h
 .rename_i k' e' hu;cases h;exact hu
 .cases h
theorem rT{v x:Value}{av:AV}(hv:bL cx w tab L v av)(h:wT av=some x):v=x:=by
 cases av with
 | c u=>
  cases h;exact hv.c_inv
 | agg cs=>
  simp only[wT] at h;split at h
  .rename_i vs hvs;cases h;obtain⟨xs,rfl,hn,hr⟩:=hv.agg_inv;rw[tT hvs hn hr]
  .cases h
 | _=>simp[wT] at h
theorem xd(hL:iM cx w tab L){id:Nat}{ents:List (Value×Value)}(hid:tab.get id=some (.map ents)){v:Value}(hv:bL cx w tab L v (.osl id)) :
  ∃b es ck,v=.map (some b)/\L id=.map (some b)/\cx.w0.heap.size<=b/\w.heap[b]? = some (.map es ck)/\es.toList.map (fun e=>(e.key,e.val))=ents:=by
 obtain⟨b,es,ck,h1,h2,h3,h4⟩:=hL.objs id _ hid;refine⟨b,es,ck,?_,h1,h2,h3,h4⟩;rw[hv.osl_inv _ _ (cN hid),h1]
theorem Av{kt:TypeId}{es:Array MapEntry}{kv:Value}(F:xf P kt (es.toList.map fun e=>(e.key,e.val)) kv)(w:World) :
  (Instr.checkKey es.isEmpty 10000 kt kv).run P w=.ok () w/\(Instr.checkKey false 10000 kt kv).run P w=.ok () w /\
  ((((Instr.findKey kt kv es.toList).run P w=.ok none w)/\∀e∈es.toList,e.key≠kv)\/∃j e,(Instr.findKey kt kv es.toList).run P w=.ok (some (j,e.val)) w/\es.toList[j]? = some e/\e.key=kv):=by
 obtain⟨K,⟨l,hl⟩,hall⟩:=F;refine⟨K.check w _ hl,K.check w _ hl,?_⟩;exact K.find w hl es.toList fun e he=>hall (e.key,e.val) (U3.2 ⟨e,he,rfl⟩)
theorem CP{t kt et:TypeId}{z:Value}{es:Array MapEntry}{ck:Nat}{b:Nat}{kv:Value}(ht:t7 P t=some (kt,et))(hz:bQ P et=some z)(hb:w.heap[b]? = some (.map es ck))(F:xf P kt (es.toList.map fun e=>(e.key,e.val)) kv)(ok:Bool) :
  ∃r,LD (es.toList.map fun e=>(e.key,e.val)) kv r/\∃u,(Instr.lookup t (.map (some b)) kv ok).run P w=.ok u w/\∀(S:Nat->Prop)(K:Nat->Option (Nat×Value)),RV w S K u (lI ok z r):=by
 obtain⟨h1,_,h3⟩:=Av F w;have hu:=lm ht
 have tup2:∀(S:Nat->Prop)(K:Nat->Option (Nat×Value))(x y:Value),RV w S K (.tuple #[x,y]) (.tup [.c x,.c y]):=fun S K x y=>.tree (.tup _ _ rfl fun j v av h4 h5=>by
  match j with
  | 0=>simp at h4 h5;subst h4;subst h5;exact .c _
  | 1=>simp at h4 h5;subst h4;subst h5;exact .c _
  | j+2=>simp at h4)
 rcases h3 with ⟨h3,hno⟩|⟨j,e,h3,hj,hk⟩
 .refine ⟨none,fun e he=>?_,if ok=true then .tuple #[z,.bool false] else z,?_,fun S K=>?_⟩
  .obtain ⟨x,hx,rfl⟩:=U3.1 he;exact hno x hx
  .simp [Instr.lookup,Sem.run_bind,run_underlying hu,MapKept.run_getObj_map hb,h1,h3,Aq hz]
  .unfold lI;cases ok
   .exact .tree (.c _)
   .exact tup2 S K _ _
 .refine ⟨some e.val,?_,if ok=true then .tuple #[e.val,.bool true] else e.val,?_,fun S K=>?_⟩
  .refine U3.2 ⟨e,r2 hj,?_⟩;rw[hk]
  .simp [Instr.lookup,Sem.run_bind,run_underlying hu,MapKept.run_getObj_map hb,h1,h3]
  .unfold lI;cases ok
   .exact .tree (.c _)
   .exact tup2 S K _ _
theorem IZ(ok:Bool)(z:Value)(r:Option Value):(lI ok z r).lt nx:=by
 unfold lI;cases r<;>cases ok<;>simp[AV.lt,AV.ltL]
theorem pO{t:TypeId}{v u:Value}{m k:AV}{ok:Bool}{K:AV->Prop}(hL:iM cx w tab L)(hv:bL cx w tab L v m)(hk:bL cx w tab L u k)(h:mM P t tab m k ok K) :
  ∃r av,K av/\bL cx w tab L r av/\av.lt nx/\(Instr.lookup t v u ok).run P w=.ok r w:=by
 unfold mM at h;split at h
 .rename_i id;split at h
  .rename_i ents kt et hid ht;unfold BB at h;split at h
   .rename_i kv z hkv hz;obtain⟨F,h⟩:=h;obtain⟨b,es,ck,rfl,_,_,hb,rfl⟩:=xd hL hid hv;obtain rfl:=rT hk hkv;obtain⟨r,hr,x,hx,hrv⟩:=CP ht hz hb F ok;exact⟨x,_,h r hr,hrv _ _,IZ _ _ _,hx⟩
   .exact h.elim
  .exact h.elim
 .exact h.elim
theorem l6{b:Nat}{es:Array MapEntry}{ck:Nat}{o':Obj}(hb:w.heap[b]? = some (.map es ck)):∃w',(setObj b o').run P w=.ok () w' /\ w'.heap[b]? = some o' /\ w'.heap.size=w.heap.size/\(∀k,k≠b->w'.heap[k]? = w.heap[k]?)/\w'.os=w.os/\w'.tape=w.tape/\w'.output=w.output:=by
 have hlt:b<w.heap.size:=(Vm.1 hb).1;have hr:=MapKept.run_setObj_map (P:=P) o' hb;refine⟨{ w with heap:=w.heap.setIfInBounds b o' },?_,?_,?_,fun k hk=>?_,rfl,rfl,rfl⟩
 .exact hr
 .simp [hlt]
 .simp
 .simp [Array.getElem?_setIfInBounds_ne (Ne.symm hk)]
theorem nQ{id:Nat}{ents ents':List (Value×Value)}{b:Nat}{es es':Array MapEntry}{ck ck':Nat}(h:aH cx a w st L)(hid:st.tab.get id=some (.map ents))(hLb:L id=.map (some b))(hb:w.heap[b]? = some (.map es ck))
  (hes:es'.toList.map (fun e=>(e.key,e.val))=ents') (hw:w'.heap[b]? = some (.map es' ck')) (hs:w'.heap.size=w.heap.size) (ho:∀k,k≠b->w'.heap[k]? = w.heap[k]?) (hos:w'.os=w.os) (htp:w'.tape=w.tape) (hout:w'.output=w.output) (dst:Option Nat) :
  aH cx (a.put dst undef) w' ({ st with tab:=(id,some (.map ents')) :: st.tab }.put dst .any) L:=by
 obtain⟨b',es2,ck2,h1,h2,h3,h4⟩:=h.lay.objs id _ hid;rw[hLb] at h1;cases h1;refine oz (o':=.map ents') (g:=b) h hid (by rw[hLb];rfl) rfl ho ⟨hos.trans h.lay.below.os,htp.trans h.lay.below.tape,hout.trans h.lay.below.output,by rw[hs];exact h.lay.below.size,fun k hk hX=>(ho k (by omega)).trans (h.lay.below.block k hk hX)⟩ hs (fun _=>⟨b,es',ck',hLb,h2,hw,hes⟩) trivial dst
theorem pm{t:TypeId}{v u x:Value}{m k y:AV}{K:aj->Prop}(h:aH cx a w st L)(hv:bL cx w st.tab L v m)(hk:bL cx w st.tab L u k)(hx:bL cx w st.tab L x y)(dst:Option Nat)(hp:kX P t st m k y fun st=>K (st.put dst .any)) :
  ∃w' st',(Instr.mapUpdate t v u x).run P w=.ok () w' /\ K st' /\ aH cx (a.put dst undef) w' st' L/\w'.heap.size=w.heap.size/\∃id ents ents',m=.osl id/\st.tab.get id=some (.map ents)/\st'={ st with tab:=(id,some (.map ents')) :: st.tab }.put dst .any/\∀k,aL (L id)≠some k->w'.heap[k]? = w.heap[k]?:=by
 unfold kX at hp;split at hp
 .rename_i id;split at hp
  .rename_i ents kt et hid ht;unfold ru at hp;split at hp
   .rename_i kv vv hkv hvv;obtain⟨F,hp⟩:=hp;obtain⟨b,es,ck,rfl,hLb,_,hb,rfl⟩:=xd h.lay hid hv;obtain rfl:=rT hk hkv;obtain rfl:=rT hx hvv;have hu:=lm ht;obtain⟨_,h1,h3⟩:=Av F w;rcases h3 with ⟨h3,hno⟩|⟨j,e,h3,hj,hke⟩
    .obtain ⟨w',hr,hw,hs,ho,hos,htp,hout⟩:=l6 (P:=P) (o':=.map (es.push { key:=u,val:=x,born:=ck }) (ck+1)) hb;refine⟨w',_,?_,hp (es.toList.map (fun e=>(e.key,e.val)) ++ [(u,x)]) (.inr ⟨fun e he=>?_,rfl⟩),nQ h hid hLb hb (by simp) hw hs ho hos htp hout dst,hs,id,_,_,rfl,hid,rfl,fun k hk=>ho k fun e=>hk (by rw[hLb,e];rfl)⟩
     .simp [Instr.mapUpdate,Sem.run_bind,run_underlying hu,MapKept.run_getObj_map hb,h1,h3,hr]
     .obtain ⟨x',hx',rfl⟩:=U3.1 he;exact hno x' hx'
    .have hjl:j<es.size:=(by simpa using (US.1 hj).1);have hje:es[j]? = some e:=(by simpa using hj);obtain⟨w',hr,hw,hs,ho,hos,htp,hout⟩:=l6 (P:=P) (o':=.map (es.modify j fun e=>{ e with key:=u,val:=x }) ck) hb;obtain⟨l,hl⟩:=F.key;refine⟨w',_,?_,hp ((es.toList.map (fun e=>(e.key,e.val))).set j (u,x)) (.inl ⟨j,e.val,?_,rfl⟩),nQ h hid hLb hb ?_ hw hs ho hos htp hout dst,hs,id,_,_,rfl,hid,rfl,fun k hk=>ho k fun e=>hk (by rw[hLb,e];rfl)⟩
     .have hks:=F.keyed.stays w hl;simp[Instr.mapUpdate,Sem.run_bind,run_underlying hu,MapKept.run_getObj_map hb,h1,h3,hje,hke,hks,hr]
     .rw [UV,hj];simp[hke]
     .apply VS;intro i;simp only[UV,Array.toList_modify,Wf,List.getElem?_modify,Vd,VI];by_cases hi:j=i
      .subst hi;simp[hjl,hje]
      .simp [hi]
   .exact hp.elim
  .exact hp.elim
 .exact hp.elim
theorem zW{t ty:TypeId}{v:Value}{m:AV}{K:aj->Prop}(h:aH cx a w st L)(hv:bL cx w st.tab L v m)(dst:Option Nat)(hp:r5 P t st m dst K) :
  ∃w' st',(Builtin.clear_ #[t] ty #[v]).run P w=.ok (.tuple #[]) w' /\ K st' /\ aH cx (a.put dst (.tuple #[])) w' st' L/\w'.heap.size=w.heap.size/\∃id ents,st.tab.get id=some (.map ents)/\st'={ st with tab:=(id,some (.map [])) :: st.tab }.put dst .any/\∀k,aL (L id)≠some k->w'.heap[k]? = w.heap[k]?:=by
 unfold r5 at hp;split at hp
 .rename_i id;split at hp
  .rename_i ents p hid ht;obtain⟨kt,et⟩:=p;obtain⟨b,es,ck,rfl,hLb,_,hb,rfl⟩:=xd h.lay hid hv;have hu:=lm ht;obtain⟨w',hr,hw,hs,ho,hos,htp,hout⟩:=l6 (P:=P) (o':=.map #[] ck) hb;have hc:=nQ (a:=a) h hid hLb hb (es':=#[]) (ents':=[]) (by simp) hw hs ho hos htp hout none;refine⟨w',_,?_,hp,bh hc (.tree (.any _)) trivial dst,hs,id,_,hid,rfl,fun k hk=>ho k fun e=>hk (by rw[hLb,e];rfl)⟩;simp[Builtin.clear_,Sem.run_bind,run_underlying hu,MapKept.run_getObj_map hb,hr]
  .exact hp.elim
 .exact hp.elim
theorem DM{t ty:TypeId}{v:Value}{m:AV}{K:AV->Prop}(hL:iM cx w tab L)(hv:bL cx w tab L v m)(h:uU P t tab m K):∃r av,K av/\bL cx w tab L r av/\av.lt nx/\(Builtin.len_ #[t] ty #[v]).run P w=.ok r w:=by
 unfold uU at h;split at h
 .rename_i id;split at h
  .rename_i ents p hid ht;obtain⟨kt,et⟩:=p;obtain⟨b,es,ck,rfl,_,_,hb,rfl⟩:=xd hL hid hv;refine⟨.int .i64 es.size,_,h,?_,trivial,?_⟩
   .have:(es.toList.map fun e=>(e.key,e.val)).length=es.size:=by simp
    rw[this];exact .tree (.c _)
   .simp [Builtin.len_,Sem.run_bind,run_underlying (lm ht),MapKept.run_getObj_map hb,goInt]
  .exact h.elim
 .exact h.elim
theorem fN:∀(l:List aB)(k id:Nat),(cz k l).get id=if k<=id then l[id-k]? else none
 | [],k,id=>by simp[cz,ae.get]
 | o :: l,k,id=>by
  simp only[cz,ae.gc];rw[fN l (k+1) id];by_cases h:id=k
  .subst h;simp
  .rw [UX h];by_cases h2:k<=id
   .rw [UZ (by omega),UZ h2,show id-k=(id-(k+1))+1 by omega];simp
   .rw [UX (by omega),UX h2]
theorem zI:∀(l:List Nat)(b:ae)(id:Nat),ae.get (l.map (fun i=>(i,none)) ++ b) id=if id∈l then none else b.get id
 | [],b,id=>by simp
 | k :: l,b,id=>by
  simp only[VE,Wc,ae.gc,VL];rw[zI l b id];by_cases h:id=k<;>simp[h]
theorem zE:∀(l:List aB)(k id:Nat)(b:ae),ae.get (cz k l ++ b) id=if k<=id/\id<k+l.length then l[id-k]? else b.get id
 | [],k,id,b=>by simp[cz];omega
 | o :: l,k,id,b=>by
  simp only[cz,Wc,ae.gc,Vl];rw[zE l (k+1) id b];by_cases h:id=k
  .subst h;simp
  .rw [UX h];by_cases h2:k<=id/\id<k+(l.length+1)
   .rw [UZ (by omega),UZ h2,show id-k=(id-(k+1))+1 by omega];simp
   .rw [UX (by omega),UX h2]
theorem sM:∀{ids:List Nat} {os:List aB},rO tab ids os->ids.length=os.length/\∀(k:Nat)(o:aB),os[k]? = some o->∃i,ids[k]? = some i/\tab.get i=some o/\dF o
 | [],[],_=>⟨rfl,fun k o h=>by simp at h⟩
 | i :: is,o :: os,h=>by
  obtain⟨h1,h2⟩:=sM h.2;refine⟨by simp[h1],fun k o' hk=>?_⟩
  cases k with
  | zero=>
   simp at hk;subst hk;exact⟨i,by simp,h.1.1,h.1.2⟩
  | succ k=>simpa using h2 k o' (by simpa using hk)
 | [],_ :: _,h=>h.elim
 | _ :: _,[],h=>h.elim
theorem KL{x:Value}{av:AV}(h:bL cx w tab L x av)(ht:pi av):RT w (Sx cx w tab L) x av:=by
 have sub:∀(xs:Array Value)(cs:List AV),bD cs->(∀(j:Nat)(x:Value)(av:AV),xs[j]? = some x->cs[j]? = some av->bL cx w tab L x av)->∀(j:Nat)(x:Value)(av:AV),xs[j]? = some x->cs[j]? = some av->RT w (Sx cx w tab L) x av:=
  fun xs cs hl hr j x av h1 h2=>dH (hr j x av h1 h2) (dG.1 hl _ (r2 h2))
 cases h with
 | tree h=>exact h
 | osl=>exact ht.elim
 | op=>exact ht.elim
 | agg xs cs hn hr=>exact .agg xs cs hn (sub xs cs ht hr)
 | tup=>exact ht.elim
 | fn f xs cs hn hr=>exact .fn f xs cs hn (sub xs cs ht hr)
 | bfn f xs cs hn hr=>exact .bfn f xs cs hn (sub xs cs ht hr)
theorem p8{o:aB}(h:dF o)(n:Nat):o.lt n:=by cases o<;>first|trivial|exact h.elim
theorem xM{u:Option (Nat×List Nat)}{f:FuncId}{vs:Array Value}{avs:List AV}{K:AV->aj->Prop}(h:aH cx a w st L)(hn:vs.size=avs.length)(hv:∀(j:Nat)(v:Value)(av:AV),vs[j]? = some v->avs[j]? = some av->bL cx w st.tab L v av)(hK:Ad u P st f avs K)(dst:Option Nat) :
  fy P f/\∃ids0:List Nat,(∀p,u=some p->∀id∈ids0,pA p.1 p.2 id)/\Calls P f vs w fun e w'=>∃v av st' L',e=.returned v/\K av st' /\ aH cx (a.put dst v) w' (st'.put dst av) L' /\ Fr cx w st.tab L st.next w' st'.tab L' st'.next/\(∀id,id<st.next->L' id=L id)/\(∀id o,id<st.next->st'.tab.get id=some o->∃o',st.tab.get id=some o') /\
   (∀k,k<w.heap.size->(∀id∈ids0,∀o,st.tab.get id=some o->aL (L id)≠some k)->w'.heap[k]? = w.heap[k]?)/\∀id o g,st.next<=id->st'.tab.get id=some o->aL (L' id)=some g->w.heap.size<=g\/∃id' ∈ids0,(∃o,st.tab.get id'=some o)/\aL (L id')=some g:=by
 rcases hK with hK|⟨ids,hl,hu,hK⟩
 rotate_left
 .have hf:=mP ids h (fun j v av h1 h2=>⟨hv j v av h1 h2,ah.1 hl _ (r2 h2)⟩);have hnx:=pt ids st;refine⟨by obtain⟨Post,hd,_⟩:=hK;exact hd.1,ids,hu,?_⟩;refine(yC (f9 ids h) (by rw[hf.1];exact hn) (fun j v av h1 h2=>(hf.2 j v av h1 h2).1) hK dst).mono ?_;rintro e w' ⟨v,av,st',L',rfl,h1,h2,h3,h4,h5,h6⟩;refine⟨v,av,st',L',rfl,h1,h2,(rj ids).trans (pa (fun id o hid=>((f9 ids h).young id o hid).1) h3 h4 h5 h6),fun id hid=>(h4 id (by rw[hnx];exact hid)).2,fun id o hid ho=>?_,fun k hk _=>h3.block k hk,fun id o g hid ho hg=>.inl (h5 id o g (by rw[hnx];exact hid) ho hg)⟩;rw[(h4 id (by rw[hnx];exact hid)).1] at ho;exact zt ids ho
 obtain⟨t,cells,objs,rest,Post,b,ids,⟨hent,hlt,hm⟩,rfl,hb,hobjs,hnd,hu,hk⟩:=hK;obtain⟨hil,hobj⟩:=sM hobjs;refine⟨hent,b :: ids,hu,?_⟩
 have hidl:∀i∈b :: ids,i<st.next:=fun i hi=>by
  rcases VL.1 hi with rfl|hi
  .exact (h.young _ _ hb).1
  .obtain ⟨k,hk'⟩:=VZ hi;have hlen:=(US.1 hk').1;obtain⟨i',h1,h2,_⟩:=hobj k _ (p0 (show k<objs.length by omega));rw[h1] at hk';cases hk';exact(h.young _ _ h2).1
 obtain⟨T0,hT0⟩:∃T0,T0=cz 0 (aB.box t cells :: objs):=⟨_,rfl⟩;obtain⟨L0,hL0⟩:∃L0:Nat->Value,L0=fun k=>L ((b :: ids).getD k 0):=⟨_,rfl⟩
 have hget:∀k o,T0.get k=some o->∃i o',(b :: ids)[k]? = some i/\(b :: ids).getD k 0=i/\st.tab.get i=some o' /\ o'.sz=o.sz/\((k=0/\i=b/\o=.box t cells)\/(o'=o/\dF o)):=fun k o hk'=>by
  rw[hT0,fN] at hk';simp only[UR,if_true,Nat.sub_zero] at hk'
  cases k with
  | zero=>
   simp at hk';subst hk';exact⟨b,_,rfl,rfl,hb,by simp[aB.sz,bu],.inl ⟨rfl,rfl,rfl⟩⟩
  | succ k=>
   obtain⟨i,h1,h2,h3⟩:=hobj k o (by simpa using hk');exact⟨i,o,by simpa using h1,by simp[List.getD,h1],h2,rfl,.inr ⟨rfl,h3⟩⟩
 have hXown:∀blk,(∃id o,st.tab.get id=some o/\aL (L id)=some blk/\id∉b :: ids)->cx.w0.heap.size<=blk/\blk<w.heap.size:=fun blk ⟨id,o,h1,h2,_⟩=>(h.lay.objs id o h1).ge h2
 let cx':Cx:=⟨cx.F,cx.w0,fun blk=>cx.X blk\/∃id o,st.tab.get id=some o/\aL (L id)=some blk/\id∉b :: ids,cx.amb,fun blk hX=>hX.elim (cx.exD blk) fun hX=>Vj cx.amb.le (hXown blk hX).1,cx.inF⟩
 have hS1:∀blk,Sx cx w st.tab L blk->Sx cx' w T0 L0 blk:=fun blk hS=>⟨hS.1,⟨hS.2.1.1,fun hX=>hX.elim hS.2.1.2 fun⟨id,o,h1,h2,_⟩=>hS.2.2 id o h1 h2⟩,fun k o h1 h2=>by
  obtain⟨i,o',_,h3,h4,_⟩:=hget k o h1;rw[hL0] at h2;simp only[h3] at h2;exact hS.2.2 i o' h4 h2⟩
 have hK1:∀k p,Kx T0 L0 k=some p->Kx st.tab L ((b :: ids).getD k 0)=some p:=fun k p hp=>by
  unfold Kx at *
  cases ho:T0.get k with
  | none=>simp[ho] at hp
  | some o=>
   obtain⟨i,o',_,h3,h4,h5,_⟩:=hget k o ho;rw[h3,h4];rw[ho,hL0] at hp;simp only[h3] at hp;simpa[h5] using hp
 have hLay0:iM cx' w T0 L0:=by
  refine⟨⟨h.lay.below.os,h.lay.below.tape,h.lay.below.output,h.lay.below.size,fun k h1 h2=>h.lay.below.block k h1 fun hX=>h2 (.inl hX)⟩,fun k o hk'=>?_,fun k k' o o' g h1 h2 h3 h4=>?_,fun blk hX=>⟨?_,fun k o h1 h2=>?_⟩⟩
  .obtain ⟨i,o',_,h3,h4,_,h6⟩:=hget k o hk';have hLk:L0 k=L i:=by rw[hL0];simp only[h3]
   rw[hLk];have hob:=h.lay.objs i o' h4;rcases h6 with ⟨rfl,rfl,rfl⟩|⟨rfl,hpl⟩
   .rw [hb] at h4;cases h4;obtain⟨g,cs,h7,h8,h9,h10,h11⟩:=hob;refine⟨g,cs,h7,h8,h9,by simpa[bu] using h10,fun j x av h12 h13=>?_⟩;have:=h11 j x (av.ren (i :: ids)) h12 (by rw[bu,UV,h13];rfl);exact⟨rJ hS1 hK1 av x this.1,this.2⟩
   .cases o' with
    | box=>exact hpl.elim
    | ghost=>exact hpl.elim
    | nest=>exact hpl.elim
    | map ents=>exact hob
    | row e sz rows=>
     obtain⟨h7,xs,h8,h9,h10⟩:=hob;exact⟨h7,xs,h8,h9,fun i' j row av h11 h12=>(h10 i' j row av h11 h12).elim fun x ⟨h13,h14⟩=>⟨x,h13,h14.mono (fun _ _=>rfl) hS1⟩⟩
  .obtain ⟨i,o1,h5,h6,h7,_⟩:=hget k o h1;obtain⟨i',o2,h8,h9,h10,_⟩:=hget k' o' h2;rw[hL0] at h3 h4;simp only[h6,h9] at h3 h4;have:=h.lay.sep i i' o1 o2 g h7 h10 h3 h4;subst this;exact(List.getElem?_inj (US.1 h5).1 hnd).1 (h5.trans h8.symm)
  .rcases hX with hX|hX
   .exact (h.lay.ex blk hX).1
   .exact (hXown blk hX).2
  .obtain ⟨i,o1,h5,h6,h7,_⟩:=hget k o h1;rw[hL0] at h2;simp only[h6] at h2;rcases hX with hX|⟨id,o',h8,h9,h10⟩
   .exact (h.lay.ex blk hX).2 i o1 h7 h2
   .have h11:=h2;have:=h.lay.sep i id o1 o' blk h7 h8 h11 h9;subst this;exact h10 (r2 h5)
 have hcall:=hm cx' w L0 vs (by rw[<- hT0];exact hLay0) (by simpa[bu] using hn) (fun j x av hx hav=>by
  rw[<- hT0];exact rJ hS1 hK1 av x (hv j x _ hx (by rw[bu,UV,hav];rfl)))
 refine hcall.mono ?_;rintro e w' ⟨v,av,cells',objs',L1,rfl,hPost,hlay1,hrt,hL1,hcl,hlt',hpl,hz⟩;rw[<- hT0] at hz;obtain⟨T1,hT1⟩:∃T1,T1=cz 0 (aB.box t cells' :: objs'):=⟨_,rfl⟩;rw[<- hT1] at hz hlay1 hrt;obtain⟨tab',htab'⟩:∃tab',tab'=kx st b ids t cells' objs':=⟨_,rfl⟩;have hbn:=hidl b (Vr ..)
 have hget':∀id,tab'.get id=if id=b then some (.box t (AV.renL (b :: List.range' st.next objs'.length) cells')) else if st.next<=id then objs'[id-st.next]? else if id∈ids then none else st.tab.get id:=fun id=>by
  rw[htab',kx,ae.gc,zE,zI];by_cases h1:id=b
  .simp [h1]
  .rw [UX h1,UX h1];by_cases h2:st.next<=id
   .rw [UZ h2];by_cases h3:id<st.next+objs'.length
    .rw [UZ ⟨h2,h3⟩]
    .rw [UX (by omega),Vh (by omega),UX (fun h4=>by have:=hidl id (Vx _ h4);omega)]
     cases hg:st.tab.get id with
     | none=>rfl
     | some o=>have:=(h.young id o hg).1;omega
   .rw [UX (by omega),UX h2]
 obtain⟨L',hL'⟩:∃L':Nat->Value,L'=fun id=>if id<st.next then L id else L1 (id-st.next+1):=⟨_,rfl⟩;have hL'o:∀id,id<st.next->L' id=L id:=fun id hid=>by rw[hL'];simp[hid]
 have hL'n:∀k,L' (st.next+k)=L1 (k+1):=fun k=>by
  rw[hL'];simp only;rw[UX (by omega),Nat.add_sub_cancel_left]
 have hL1b:L1 0=L b:=by rw[hL1,hL0];rfl
 have hT1get:∀k,T1.get k=if k=0 then some (.box t cells') else objs'[k-1]?:=fun k=>by
  rw[hT1,fN]
  cases k with
  | zero=>simp
  | succ k=>simp
 -- an object behind it
 have hcases:∀id o,tab'.get id=some o->(id=b/\o=.box t (AV.renL (b :: List.range' st.next objs'.length) cells'))\/(∃k,id=st.next+k/\objs'[k]? = some o)\/(id<st.next/\id≠b/\id∉ids/\st.tab.get id=some o):=fun id o ho=>by
  rw[hget'] at ho;split at ho
  .rename_i e;cases ho;exact .inl ⟨e,rfl⟩
  .split at ho
   .rename_i h1 h2;exact .inr (.inl ⟨id-st.next,by omega,ho⟩)
   .split at ho
    .cases ho
    .rename_i h1 h2 h3;exact .inr (.inr ⟨by omega,h1,h3,ho⟩)
 have hT0blk:∀k o g,T0.get k=some o->aL (L0 k)=some g->∃i∈b :: ids,(∃o',st.tab.get i=some o')/\aL (L i)=some g:=fun k o g h1 h2=>by
  obtain⟨i,o',h3,h4,h5,_⟩:=hget k o h1;rw[hL0] at h2;simp only[h4] at h2;exact⟨i,r2 h3,⟨o',h5⟩,h2⟩
 have hnewblk:∀k o g,objs'[k]? = some o->aL (L1 (k+1))=some g->w.heap.size<=g\/∃i∈b :: ids,(∃o',st.tab.get i=some o')/\aL (L i)=some g:=fun k o g h1 h2=>by
  rcases U9 g w.heap.size with hg|hg
  .obtain ⟨id2,o2,h3,h4⟩:=hz.young (k+1) o g (by rw[hT1get];simpa using h1) h2 hg;exact .inr (hT0blk id2 o2 g h3 h4)
  .exact .inl hg
 have hkeep:∀k,k<w.heap.size->(∀id∈b :: ids,∀o,st.tab.get id=some o->aL (L id)≠some k)->w'.heap[k]? = w.heap[k]?:=fun k hk' hno=>hz.keep k hk' fun id o h1 h2=>by
  obtain⟨i,hi,⟨o',h3⟩,h4⟩:=hT0blk id o k h1 h2;exact hno i hi o' h3 h4
 have hyoung':∀id o g,tab'.get id=some o->aL (L' id)=some g->g<w.heap.size->∃id2 o2,st.tab.get id2=some o2/\aL (L id2)=some g:=fun id o g h1 h2 h3=>by
  rcases hcases id o h1 with ⟨rfl,_⟩|⟨k,rfl,h4⟩|⟨h4,_,_,h5⟩
  .rw [hL'o _ hbn] at h2;exact⟨_,_,hb,h2⟩
  .rw [hL'n] at h2;rcases hnewblk k o g h4 h2 with h5|⟨i,_,⟨o',h5⟩,h6⟩
   .omega
   .exact ⟨i,o',h5,h6⟩
  .rw [hL'o _ h4] at h2;exact⟨id,o,h5,h2⟩
 have hsub:∀blk,Sx cx w st.tab L blk->Sx cx w' tab' L' blk:=fun blk hS=>⟨UY hS.1 hz.size,hS.2.1,fun id o h1 h2=>by
  obtain⟨id2,o2,h3,h4⟩:=hyoung' id o blk h1 h2 hS.1;exact hS.2.2 id2 o2 h3 h4⟩
 have hext:lG cx w st.tab L st.next w' tab' L':=by
  refine⟨fun blk hS=>hkeep blk hS.1 fun id _ o ho=>hS.2.2 id o ho,hsub,fun id p hid hp=>?_⟩;unfold Kx at *;rw[hL'o id hid] at hp
  cases ho:tab'.get id with
  | none=>simp[ho] at hp
  | some o=>
   rcases hcases id o ho with ⟨rfl,rfl⟩|⟨k,rfl,_⟩|⟨_,_,_,h5⟩
   .rw [hb];rw[ho] at hp;simpa[aB.sz,bu,hcl] using hp
   .omega
   .rw [h5]
    rwa [ho] at hp
 have hS2:∀blk,Sx cx' w' T1 L1 blk->Sx cx w' tab' L' blk:=fun blk hS=>⟨hS.1,⟨hS.2.1.1,fun hX=>hS.2.1.2 (.inl hX)⟩,fun id o h1 h2=>by
  rcases hcases id o h1 with ⟨rfl,_⟩|⟨k,rfl,h4⟩|⟨h4,h5,h6,h7⟩
  .rw [hL'o _ hbn,<- hL1b] at h2;exact hS.2.2 0 _ (by rw[hT1get];rfl) h2
  .rw [hL'n] at h2;exact hS.2.2 (k+1) o (by rw[hT1get];simpa using h4) h2
  .rw [hL'o _ h4] at h2;exact hS.2.1.2 (.inr ⟨id,o,h7,h2,fun hm=>(VL.1 hm).elim h5 h6⟩)⟩
 have hK2:∀id p,id<objs'.length+1->Kx tab' L' ((b :: List.range' st.next objs'.length).getD id 0)=some p->Kx T1 L1 id=some p:=fun id p hid hp=>by
  unfold Kx at *
  cases id with
  | zero=>
   rw[Xo,hget',UZ rfl,hL'o _ hbn] at hp;rw[hT1get,hL1b];simpa[aB.sz,bu] using hp
  | succ k=>
   have e:(b :: List.range' st.next objs'.length).getD (k+1) 0=st.next+k:=by
    have hk2:k<objs'.length:=(by omega);simp[List.getD,hk2]
   rw[e,hget',UX (by omega),UZ (by omega),hL'n] at hp;rw[hT1get];simpa using hp
 have hobjs':∀id o,tab'.get id=some o->iu cx w' tab' L' (L' id) o:=fun id o ho=>by
  rcases hcases id o ho with ⟨rfl,rfl⟩|⟨k,rfl,h4⟩|⟨h4,h5,h6,h7⟩
  .obtain ⟨g,cs,h1,h2,h3,h4,h5⟩:=hlay1.objs 0 _ (by rw[hT1get];rfl);rw[hL'o _ hbn,<- hL1b];refine⟨g,cs,h1,h2,h3,by simpa[bu] using h4,fun j x av h6 h7=>?_⟩;rw[bu,UV] at h7
   cases hj:cells'[j]? with
   | none=>simp[hj] at h7
   | some av'=>
    simp[hj] at h7;subst h7;have:=h5 j x av' h6 hj;exact⟨this.1.rename (ah.1 hlt' _ (r2 hj)) hS2 hK2,this.2⟩
  .have hob:=hlay1.objs (k+1) o (by rw[hT1get];simpa using h4);rw[hL'n]
   cases o with
   | box=>exact(hpl _ (r2 h4)).elim
   | ghost=>exact(hpl _ (r2 h4)).elim
   | nest=>exact(hpl _ (r2 h4)).elim
   | map ents=>exact hob
   | row e sz rows=>
    obtain⟨h7,xs,h8,h9,h10⟩:=hob;exact⟨h7,xs,h8,h9,fun i' j row av h11 h12=>(h10 i' j row av h11 h12).elim fun x ⟨h13,h14⟩=>⟨x,h13,h14.mono (fun _ _=>rfl) hS2⟩⟩
  .rw [hL'o _ h4];have hob:=h.lay.objs id o h7;refine hext.obj hob (h.young id o h7).2 fun g hg=>hkeep g (hob.ge hg).2 fun i hi o' h8 h9=>?_;have:=h.lay.sep id i o o' g h7 h8 hg h9;subst this;exact(VL.1 hi).elim h5 h6
 have hin:∀id o,tab'.get id=some o->(id=b\/∃k,id=st.next+k)->∃k,T1.get k≠none/\L' id=L1 k/\(id=b->k=0)/\∀j,id=st.next+j->k=j+1:=fun id o ho hor=>by
  rcases hcases id o ho with ⟨rfl,rfl⟩|⟨k,rfl,h4⟩|⟨h4,h5,_⟩
  .exact ⟨0,by rw[hT1get];simp,by rw[hL'o _ hbn,hL1b],fun _=>rfl,fun j hj=>by omega⟩
  .exact ⟨k+1,by rw[hT1get];simp[h4],hL'n k,fun e=>by omega,fun j hj=>by omega⟩
  .rcases hor with e|⟨k,e⟩
   .exact absurd e h5
   .omega
 have hout:∀id o id2 o2 g,tab'.get id=some o->(id=b\/∃k,id=st.next+k)->id2<st.next->id2≠b->id2∉ids->st.tab.get id2=some o2->aL (L' id)=some g->aL (L id2)≠some g:=fun id o id2 o2 g h1 h2 h3 h4 h5 h6 h7 h8=>by
  obtain⟨k,h9,h10,_⟩:=hin id o h1 h2;obtain⟨o3,h11⟩:=Option.ne_none_iff_exists'.1 h9;rw[h10] at h7;exact(hlay1.ex g (.inr ⟨id2,o2,h6,h8,fun hm=>(VL.1 hm).elim h4 h5⟩)).2 k o3 h11 h7
 have hkind:∀id o,tab'.get id=some o->(id=b\/∃k,id=st.next+k)\/(id<st.next/\id≠b/\id∉ids/\st.tab.get id=some o):=fun id o ho=>by
  rcases hcases id o ho with ⟨rfl,_⟩|⟨k,rfl,_⟩|h4
  .exact .inl (.inl rfl)
  .exact .inl (.inr ⟨k,rfl⟩)
  .exact .inr h4
 have hlay':iM cx w' tab' L':=by
  refine⟨⟨hlay1.below.os,hlay1.below.tape,hlay1.below.output,hlay1.below.size,fun k h1 h2=>?_⟩,hobjs',fun id id' o o' g h1 h2 h3 h4=>?_,fun blk hX=>⟨UY (h.lay.ex blk hX).1 hz.size,fun id o h1 h2=>?_⟩⟩
  .refine (hkeep k (UY h1 h.lay.below.size) fun id _ o ho hg=>?_).trans (h.lay.below.block k h1 h2);have:=((h.lay.objs id o ho).ge hg).1;omega
  .rcases hkind id o h1 with h5|⟨h5,h6,h7,h8⟩<;>rcases hkind id' o' h2 with h9|⟨h9,h10,h11,h12⟩
   .obtain ⟨k,h13,h14,h15,h16⟩:=hin id o h1 h5;obtain⟨k',h17,h18,h19,h20⟩:=hin id' o' h2 h9;obtain⟨o3,h21⟩:=Option.ne_none_iff_exists'.1 h13;obtain⟨o4,h22⟩:=Option.ne_none_iff_exists'.1 h17;rw[h14] at h3;rw[h18] at h4;have e:=hlay1.sep k k' o3 o4 g h21 h22 h3 h4;rcases h5 with h5|⟨j,h5⟩<;>rcases h9 with h9|⟨j',h9⟩
    .rw [h5,h9]
    .have:=h15 h5;have:=h20 j' h9;omega
    .have:=h16 j h5;have:=h19 h9;omega
    .have:=h16 j h5;have:=h20 j' h9;omega
   .rw [hL'o _ h9] at h4;exact absurd h4 (hout id o id' o' g h1 h5 h9 h10 h11 h12 h3)
   .rw [hL'o _ h5] at h3;exact absurd h3 (hout id' o' id o g h2 h9 h5 h6 h7 h8 h4)
   .rw [hL'o _ h5] at h3;rw[hL'o _ h9] at h4;exact h.lay.sep id id' o o' g h8 h12 h3 h4
  .obtain ⟨id2,o2,h3,h4⟩:=hyoung' id o blk h1 h2 (h.lay.ex blk hX).1;exact(h.lay.ex blk hX).2 id2 o2 h3 h4
 have hy':∀id o,tab'.get id=some o->id<st.next+objs'.length/\o.lt (st.next+objs'.length):=fun id o ho=>by
  rcases hcases id o ho with ⟨rfl,rfl⟩|⟨k,rfl,h4⟩|⟨h4,_,_,h5⟩
  .refine ⟨by omega,ah.2 fun x hx=>?_⟩;rw[bu] at hx;obtain⟨y,hy,rfl⟩:=U3.1 hx
   exact QB (ah.1 hlt' y hy) fun j hj=>by
    cases j with
    | zero=>simpa using by omega
    | succ j=>
     have hj':j<objs'.length:=(by omega);simp[List.getD,hj']
  .have:=(US.1 h4).1;exact⟨by omega,p8 (hpl _ (r2 h4)) _⟩
  .have:=h.young id o h5;refine⟨by omega,?_⟩;have h6:st.next<=st.next+objs'.length:=(by omega)
   cases o with
   | box t cells=>exact ah.2 fun x hx=>AV.lt_mono h6 (ah.1 this.2 x hx)
   | row=>trivial
   | map=>trivial
   | nest e sz rows=>exact fun row hr=>ah.2 fun x hx=>AV.lt_mono h6 (ah.1 (this.2 row hr) x hx)
   | ghost vs env=>exact dQ h6 this.2
 have hC:=fJ (w':=w') h hlay' hext (WO _ _) hy' (.tree (hrt.mono (fun _ _=>rfl) hS2)) (hrt.lt _) dst;rw[htab'] at hC;refine⟨v,av,_,L',rfl,hk av cells' objs' hPost,hC,?_,hL'o,fun id o hid ho=>?_,hkeep,fun id o g h1 h2 h3=>?_⟩
 .rw [<- htab'];exact⟨hext,hz.size,fun k h1 h2=>hkeep k h1 fun id _ o ho=>h2 id o ho,hyoung',WO _ _⟩
 .rw [<- htab'] at ho;rcases hcases id o ho with ⟨rfl,_⟩|⟨k,rfl,_⟩|⟨_,_,_,h5⟩
  .exact ⟨_,hb⟩
  .omega
  .exact ⟨o,h5⟩
 .rw [<- htab'] at h2;rcases hcases id o h2 with ⟨rfl,_⟩|⟨k,rfl,h4⟩|⟨h4,_⟩
  .omega
  .rw [hL'n] at h3;rcases hnewblk k o g h4 h3 with h5|⟨i,h5,h6,h7⟩
   .exact .inl h5
   .exact .inr ⟨i,h5,h6,h7⟩
  .omega
theorem tV{t:TypeId}(h:aH cx a w st L)(dst:Option Nat) :
  (Instr.makeMap t none).run P w=.ok (.map (some w.heap.size)) (w.alloc (.map #[] 0)) /\
  aH cx (a.put dst (.map (some w.heap.size))) (w.alloc (.map #[] 0)) ({ st with tab:=(st.next,some (.map [])) :: st.tab,next:=st.next+1 }.put dst (.osl st.next)) (bp L st.next (.map (some w.heap.size))):=by
 refine⟨run_makeMap t w,j9 h ((Below.refl _ _).alloc (UU _) _) (ob:=.map []) (fun g hg=>?_) (fun hx=>?_) trivial (fun hx=>?_) (VT _) dst⟩
 .simp [aL] at hg;omega
 .exact ⟨w.heap.size,#[],0,rfl,h.lay.below.size,heap_alloc_new w _,rfl⟩
 .refine .osl _ _ fun sz u hk=>?_;simp[Kx,ae.gc,bp] at hk;exact hk.2
end
end
end
end Go.Proofs.YtglaiabelcefeaaGreat
