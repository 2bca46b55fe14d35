/-
  Parts of the proof: Qtp3.
-/
import Derived.Test.YtiaiihjmmfakdaaGreatDoorQtq1
import Derived.Maps.Own
set_option linter.unusedVariables false
set_option linter.unusedSimpArgs false
set_option linter.defProp false
set_option maxRecDepth 100000
set_option maxHeartbeats 16000000
namespace Go.Proofs.YtiaiihjmmfakdaaGreatDoor
open Go.RowKit
section
section
mutual
def AV.shift (k:Nat):AV -> AV
 | .osl id=>.osl (id+k)
 | .op id i j=>.op (id+k) i j
 | .agg cs=>.agg (AV.shiftL k cs)
 | .tup cs=>.tup (AV.shiftL k cs)
 | .fn f cs=>.fn f (AV.shiftL k cs)
 | .bfn f cs=>.bfn f (AV.shiftL k cs)
 | .any=>.any
 | .c v=>.c v
 | .sl sz rows=>.sl sz rows
 | .rp cs=>.rp cs
def AV.shiftL (k:Nat):List AV -> List AV
 | []=>[]
 | a :: l=>a.shift k :: AV.shiftL k l
end
theorem a8 (k:Nat):∀ l:List AV,AV.shiftL k l=l.map (·.shift k)
 | []=>rfl
 | a :: l=>by simp [AV.shiftL,a8 k l]
mutual
def AV.plain:AV -> Prop
 | .sl _ _=>False
 | .rp _=>False
 | .agg cs=>AV.plainL cs
 | .tup cs=>AV.plainL cs
 | .fn _ cs=>AV.plainL cs
 | .bfn _ cs=>AV.plainL cs
 | _=>True
def AV.plainL:List AV -> Prop
 | []=>True
 | a :: l=>a.plain /\ AV.plainL l
end
theorem cU:∀ {l:List AV},AV.plainL l ↔ ∀ a ∈ l,a.plain
 | []=>by simp [AV.plainL]
 | a :: l=>by simp [AV.plainL,cU (l:=l)]
def dR (k:Nat):List (Nat × AV) -> List (Nat × AV)
 | []=>[]
 | (t,av) :: l=>(t,av.shift k) :: dR k l
theorem gK (k:Nat):∀ (l:List (Nat × AV)) (t:Nat),aX (dR k l) t=(aX l t).shift k
 | [],t=>rfl
 | (q,av) :: l,t=>by
  unfold dR aX;split
  .rfl
  .exact gK k l t
def aE.shift (k:Nat):aE -> aE
 | .box t cells=>.box t (AV.shiftL k cells)
 | .row e sz rows=>.row e sz rows
 | .nest e sz rows=>.nest e sz (rows.map (AV.shiftL k))
 | .map ents=>.map ents
 | .ghost vs env=>.ghost vs (dR k env)
def aE.plain:aE -> Prop
 | .box _ cells=>AV.plainL cells
 | .row _ _ rows=>∀ row ∈ rows,∀ av ∈ row,av.plain
 | .nest _ _ rows=>∀ row ∈ rows,∀ av ∈ row,av.plain
 | .map _=>False
 | .ghost _ _=>False
def af.shift (k:Nat) (T:af):af:=T.map fun p=>(p.1+k,p.2.map (aE.shift k))
def af.plain:af -> Prop
 | []=>True
 | (_,some o) :: T=>o.plain /\ af.plain T
 | (_,none) :: T=>af.plain T
theorem nM {o:aE}:∀ {T:af} {id:Nat},T.plain -> T.get id=some o -> o.plain
 | [],_,_,h=>by cases h
 | (k,oo) :: T,id,hp,h=>by
  rw [af.gc] at h;split at h
  .subst h;exact hp.1
  .cases oo with
   | none=>exact nM (T:=T) hp h
   | some o'=>exact nM (T:=T) hp.2 h
theorem nE {tab:af} {k:Nat} (hy:∀ id o,tab.get id=some o -> id<k):∀ (T:af) (id:Nat),(T.shift k ++ tab).get id=if id<k then tab.get id else (T.get (id - k)).map (aE.shift k)
 | [],id=>by
  simp only [af.shift,N3,Pf];split
  .rfl
  .rename_i h
   cases hg:tab.get id with
   | none=>rfl
   | some o=>exact absurd (hy id o hg) h
 | (j,o) :: T,id=>by
  have ih:=nE hy T id;simp only [af.shift,Oz,OS,af.gc] at ih ⊢;by_cases h1:id=j+k
  .rw [ND h1,Ny (by omega),ND (by omega)]
  .rw [Ny h1,ih];by_cases h2:id<k
   .rw [ND h2,ND h2]
   .rw [Ny h2,Ny h2,Ny (by omega)]
theorem RT.shift {w:World} {S:Nat -> Prop} {x:Value} {av:AV} (h:RT w S x av) (k:Nat):av.shift k=av:=by
 induction h with
 | agg xs cs hn hr ih=>
  simp only [AV.shift,a8,AV.agg.injEq];apply Oh;intro j;rw [Nu]
  cases hj:cs[j]? with
  | none=>rfl
  | some av=>
   have hlt:j<xs.size:=by rw [hn];exact (Nw.1 hj).1
   simp [ih j _ av (Nx hlt) hj]
 | tup xs cs hn hr ih=>
  simp only [AV.shift,a8,AV.tup.injEq];apply Oh;intro j;rw [Nu]
  cases hj:cs[j]? with
  | none=>rfl
  | some av=>
   have hlt:j<xs.size:=by rw [hn];exact (Nw.1 hj).1
   simp [ih j _ av (Nx hlt) hj]
 | fn fi xs cs hn hr ih=>
  simp only [AV.shift,a8,AV.fn.injEq,true_and];apply Oh;intro j;rw [Nu]
  cases hj:cs[j]? with
  | none=>rfl
  | some av=>
   have hlt:j<xs.size:=by rw [hn];exact (Nw.1 hj).1
   simp [ih j _ av (Nx hlt) hj]
 | bfn fi xs cs hn hr ih=>
  simp only [AV.shift,a8,AV.bfn.injEq,true_and];apply Oh;intro j;rw [Nu]
  cases hj:cs[j]? with
  | none=>rfl
  | some av=>
   have hlt:j<xs.size:=by rw [hn];exact (Nw.1 hj).1
   simp [ih j _ av (Nx hlt) hj]
 | _=>simp [AV.shift]
theorem RT.plain {w:World} {S S':Nat -> Prop} {x:Value} {av:AV} (h:RT w S x av) (hp:av.plain):RT w S' x av:=by
 induction h with
 | any x=>exact .any x
 | c v=>exact .c v
 | sl=>exact hp.elim
 | rp=>exact hp.elim
 | agg xs cs hn hr ih=>exact .agg xs cs hn fun j x av h1 h2=>ih j x av h1 h2 (cU.1 hp _ (Nr h2))
 | tup xs cs hn hr ih=>exact .tup xs cs hn fun j x av h1 h2=>ih j x av h1 h2 (cU.1 hp _ (Nr h2))
 | fn fi xs cs hn hr ih=>exact .fn fi xs cs hn fun j x av h1 h2=>ih j x av h1 h2 (cU.1 hp _ (Nr h2))
 | bfn fi xs cs hn hr ih=>exact .bfn fi xs cs hn fun j x av h1 h2=>ih j x av h1 h2 (cU.1 hp _ (Nr h2))
theorem RV.conv {w:World} {S S':Nat -> Prop} {K K':Nat -> Option (Nat × Value)} {k:Nat} {x:Value} {av:AV} (h:RV w S K x av) (hS:(∀ b,S b -> S' b) \/ av.plain) (hK:∀ id p,K' (id+k)=some p -> K id=some p):RV w S' K' x (av.shift k):=by
 induction h with
 | tree h=>
  rw [h.shift k];rcases hS with hS|hS
  .exact .tree (h.mono (fun _ _=>rfl) hS)
  .exact .tree (h.plain hS)
 | osl x id h=>exact .osl x _ fun sz v e=>h sz v (hK id _ e)
 | op x id i j h=>exact .op x _ i j fun sz v e=>h sz v (hK id _ e)
 | agg xs cs hn hr ih=>
  simp only [AV.shift,a8];refine .agg xs _ (by simpa using hn) fun j x av h1 h2=>?_;rw [Nu] at h2
  cases hj:cs[j]? with
  | none=>simp [hj] at h2
  | some av'=>
   simp [hj] at h2;subst h2;exact ih j x av' h1 hj (hS.imp id fun hp=>cU.1 hp _ (Nr hj))
 | tup xs cs hn hr ih=>
  simp only [AV.shift,a8];refine .tup xs _ (by simpa using hn) fun j x av h1 h2=>?_;rw [Nu] at h2
  cases hj:cs[j]? with
  | none=>simp [hj] at h2
  | some av'=>
   simp [hj] at h2;subst h2;exact ih j x av' h1 hj (hS.imp id fun hp=>cU.1 hp _ (Nr hj))
 | fn fi xs cs hn hr ih=>
  simp only [AV.shift,a8];refine .fn fi xs _ (by simpa using hn) fun j x av h1 h2=>?_;rw [Nu] at h2
  cases hj:cs[j]? with
  | none=>simp [hj] at h2
  | some av'=>
   simp [hj] at h2;subst h2;exact ih j x av' h1 hj (hS.imp id fun hp=>cU.1 hp _ (Nr hj))
 | bfn fi xs cs hn hr ih=>
  simp only [AV.shift,a8];refine .bfn fi xs _ (by simpa using hn) fun j x av h1 h2=>?_;rw [Nu] at h2
  cases hj:cs[j]? with
  | none=>simp [hj] at h2
  | some av'=>
   simp [hj] at h2;subst h2;exact ih j x av' h1 hj (hS.imp id fun hp=>cU.1 hp _ (Nr hj))
theorem gr {n k:Nat}:∀ {av:AV},av.lt n -> (av.shift k).lt (k+n):=by
 intro av
 induction av using AV.rec (motive_2:=fun _=>True) (motive_3:=fun l=>AV.ltL n l -> AV.ltL (k+n) (AV.shiftL k l))<;>simp_all [AV.lt,AV.ltL,AV.shift,AV.shiftL]<;>omega
theorem kj {n k:Nat}:∀ {l:List (Nat × AV)},cT n l -> cT (k+n) (dR k l)
 | [],_=>trivial
 | (_,_) :: _,h=>⟨gr h.1,kj h.2⟩
structure cG where
 r:AV
 tab:af:=[]
 n:Nat:=0
structure cG.Ok (R:cG):Prop where
 young:∀ id o,R.tab.get id=some o -> id<R.n /\ o.lt R.n
 lt:R.r.lt R.n
def fY (P:Program) (f:FuncId):Prop:=∀ (args:Array Value) (w:World),(callFunc f args).run P w=.ok (.enter f args) w
def dn (P:Program) (f:FuncId) (args:List AV) (Post:cG -> Prop):Prop:=
 fY P f /\ ∀ (S:Nat -> Prop) (w:World) (vs:Array Value) (hS:HJ w S),vs.size=args.length -> (∀ (j:Nat) (v:Value) (av:AV),vs[j]? = some v -> args[j]? = some av -> RT w S v av) ->
  Calls P f vs w fun e w'=>∃ v L R,Post R /\ R.Ok /\ e=.returned v /\ im (Cx.mk0 S w hS) w' R.tab L /\ bx (Cx.mk0 S w hS) w' R.tab L v R.r
def ax (P:Program) (f:FuncId) (args:List AV) (R:cG):Prop:=dn P f args fun R'=>R'=R
theorem dn.mono {P:Program} {f:FuncId} {args:List AV} {Post Post':cG -> Prop} (h:dn P f args Post) (hp:∀ R,Post R -> Post' R):dn P f args Post':=
 ⟨h.1,fun S w vs h1 h2 h3=>(h.2 S w vs h1 h2 h3).mono fun e w' ⟨v,L,R,h4,h5⟩=>⟨v,L,R,hp R h4,h5⟩⟩
def l7:AV -> AV
 | .c v=>.c v
 | .sl sz rows=>.sl sz rows
 | .rp cs=>.rp cs
 | _=>.any
def mu (tab:af):AV -> AV
 | .osl id=>match tab.get id with
  | some (.row _ sz rows)=>.sl sz rows
  | some (.nest _ sz rows)=>.sl sz (rows.map fun row=>row.map l7)
  | _=>.any
 | .c v=>.c v
 | .sl sz rows=>.sl sz rows
 | .rp cs=>.rp cs
 | _=>.any
def fh (tab:af):AV -> AV
 | .osl id=>match tab.get id with
  | some (.row _ sz rows)=>.sl sz rows
  | some (.nest _ sz rows)=>.sl sz (rows.map fun row=>row.map (mu tab))
  | _=>.any
 | .op _ _ _=>.any
 | .agg _=>.any
 | .tup _=>.any
 | .fn _ _=>.any
 | .bfn _ _=>.any
 | .any=>.any
 | .c v=>.c v
 | .sl sz rows=>.sl sz rows
 | .rp cs=>.rp cs
def gm (tab:af):AV -> AV
 | .agg cs=>.agg (cs.map (fh tab))
 | .op id i j=>match tab.get id with
  | some (.box _ cells)=>if i=0 then .rp ((cells.drop j).map (fh tab)) else .any
  | some (.row _ _ rows)=>if i<rows.length then .rp ((rows[i]?.getD []).drop j) else .any
  | _=>.any
 | .osl id=>fh tab (.osl id)
 | .tup _=>.any
 | .fn _ _=>.any
 | .bfn _ _=>.any
 | .any=>.any
 | .c v=>.c v
 | .sl sz rows=>.sl sz rows
 | .rp cs=>.rp cs
def fE (tab:af):AV -> AV
 | .fn f cs=>.fn f (cs.map (gm tab))
 | .bfn f cs=>.bfn f (cs.map (gm tab))
 | .agg cs=>.agg (cs.map (fh tab))
 | .op id i j=>match tab.get id with
  | some (.box _ cells)=>if i=0 then .rp ((cells.drop j).map (fh tab)) else .any
  | some (.row _ _ rows)=>if i<rows.length then .rp ((rows[i]?.getD []).drop j) else .any
  | _=>.any
 | .osl id=>fh tab (.osl id)
 | .tup _=>.any
 | .any=>.any
 | .c v=>.c v
 | .sl sz rows=>.sl sz rows
 | .rp cs=>.rp cs
def yS:AV -> Prop
 | .osl _=>False
 | .op _ _ _=>False
 | .tup _=>False
 | .agg cs=>bV cs
 | .fn _ cs=>bV cs
 | .bfn _ cs=>bV cs
 | _=>True
def pi:List AV -> Prop
 | []=>True
 | a :: l=>yS a /\ pi l
theorem zB:∀ {l:List AV},pi l ↔ ∀ a ∈ l,yS a
 | []=>by simp [pi]
 | a :: l=>by simp [pi,zB (l:=l)]
def x7 (P:Program) (st:aj) (f:FuncId) (avs:List AV) (K:AV -> aj -> Prop):Prop:=
 ∃ Post:cG -> Prop,dn P f (avs.map (fE st.tab)) Post /\ ∀ R,Post R -> (pi avs \/ (R.r.plain /\ R.tab.plain)) /\ K (R.r.shift st.next) { st with tab:=R.tab.shift st.next ++ st.tab,next:=st.next+R.n }
def MG (P:Program) (st:aj) (f:FuncId) (avs:List AV) (K:AV -> aj -> Prop):Prop:=
 fY P f /\ ∃ v:Value,K (.c v) st /\ ∀ (cx:Cx) (a:Act) (w:World) (L:Nat -> Value) (vs:Array Value),aG cx a w st L -> vs.size=avs.length -> (∀ (j:Nat) (v:Value) (av:AV),vs[j]? = some v -> avs[j]? = some av -> bx cx w st.tab L v av) ->
  Calls P f vs w fun e w'=>e=.returned v /\ Below w.heap.size w w'
def ox (P:Program) (st:aj) (f:FuncId) (avs:List AV) (K:AV -> aj -> Prop):Prop:=x7 P st f avs K \/ MG P st f avs K
def KJ (P:Program) (f:FuncId) (e:TypeId) (sz:Nat) (vals:List (List Value)) (rest:List Value) (vals':List (List Value)):Prop:=
 fY P f /\ ∀ (w:World) (v:Value) (base:Nat),cO w base e sz v vals.length vals.flatten -> Calls P f (v :: rest).toArray w fun ex w'=>∃ v',ex=.returned v' /\ cO w' base e sz v' vals'.length vals'.flatten /\ w.grownBy w' v.ownBlock /\ v'.ownBlock=v.ownBlock
def fH (vals:List (List Value)):List (List AV):=vals.map fun r=>r.map AV.c
def Mx (P:Program) (st:aj) (f:FuncId) (avs:List AV) (K:AV -> aj -> Prop):Prop:=
 ∃ (id e sz:Nat) (vals:List (List Value)) (rest:List Value) (vals':List (List Value)),avs=.osl id :: rest.map .c /\ st.tab.get id=some (.row e sz (fH vals)) /\ KJ P f e sz vals rest vals' /\ (∀ r ∈ vals',r.length=sz /\ ∀ x ∈ r,x.oneCell'=true) /\
  K (.osl st.next) { st with tab:=bw st.tab st.next (some id) (.row e sz (fH vals')),next:=st.next+1 }
def zj (P:Program) (st:aj) (f:FuncId) (avs:List AV) (K:AV -> aj -> Prop):Prop:=∃ ids,ox P (gt st ids) f (iL st ids avs) K
def pR (w:World) (S:Nat -> Prop) (base:Nat) (e:TypeId) (sz:Nat) (v:Value) (rows:List (List AV)):Prop:=
 (∀ row ∈ rows,row.length=sz) /\ ∃ xs,cO w base e sz v rows.length xs /\ (∀ x ∈ xs,x.oneCell'=true) /\ ∀ (i j:Nat) (row:List AV) (av:AV),rows[i]? = some row -> row[j]? = some av -> ∃ x,xs[i * sz+j]? = some x /\ RT w S x av
def IV (P:Program) (f:FuncId) (e:TypeId) (sz:Nat) (rows:List (List AV)) (args:List AV) (rows':List (List AV)):Prop:=
 fY P f /\ ∀ (S:Nat -> Prop) (w:World) (base:Nat) (v:Value) (vs:Array Value),HJ w S -> t3<=base -> pR w S base e sz v rows -> (∀ g,aF v=some g -> ¬ S g) -> vs.size=args.length -> (∀ (j:Nat) (x:Value) (av:AV),vs[j]? = some x -> args[j]? = some av -> RT w S x av) ->
  Calls P f (#[v] ++ vs) w fun ex w'=>ex=.returned (.tuple #[]) /\ (w'.os=w.os /\ w'.tape=w.tape /\ w'.output=w.output) /\ w.heap.size<=w'.heap.size /\ (∀ k,k<w.heap.size -> aF v ≠ some k -> w'.heap[k]? = w.heap[k]?) /\ pR w' (fun b=>(S b \/ w.heap.size<=b) /\ b<w'.heap.size) base e sz v rows'
def Mk (P:Program) (st:aj) (f:FuncId) (avs:List AV) (K:AV -> aj -> Prop):Prop:=
 ∃ (id e sz:Nat) (rows rows':List (List AV)) (rest:List AV),avs=.osl id :: rest /\ st.tab.get id=some (.row e sz rows) /\ iH rest /\ IV P f e sz rows rest rows' /\ K (.tup []) { st with tab:=(id,some (.row e sz rows')) :: st.tab }
def E0 (P:Program) (st:aj) (f:FuncId) (avs:List AV) (K:AV -> aj -> Prop):Prop:=
 fY P f /\ ∀ (cx:Cx) (a:Act) (w:World) (L:Nat -> Value) (vs:Array Value) (dst:Option Nat),aG cx a w st L -> vs.size=avs.length -> (∀ (j:Nat) (v:Value) (av:AV),vs[j]? = some v -> avs[j]? = some av -> bx cx w st.tab L v av /\ av.lt st.next) ->
  Calls P f vs w fun e w'=>∃ v av st' L',e=.returned v /\ K av st' /\ aG cx (a.put dst v) w' (st'.put dst av) L' /\ Fr cx w st.tab L st.next w' st'.tab L' st'.next
def Ap (P:Program) (st:aj) (f:FuncId) (avs:List AV) (K:AV -> aj -> Prop):Prop:=Mx P st f avs K \/ Mk P st f avs K \/ E0 P st f avs K
mutual
def AV.ren (l:List Nat):AV -> AV
 | .osl id=>.osl (l.getD id 0)
 | .op id i j=>.op (l.getD id 0) i j
 | .agg cs=>.agg (AV.renL l cs)
 | .tup cs=>.tup (AV.renL l cs)
 | .fn f cs=>.fn f (AV.renL l cs)
 | .bfn f cs=>.bfn f (AV.renL l cs)
 | .any=>.any
 | .c v=>.c v
 | .sl sz rows=>.sl sz rows
 | .rp cs=>.rp cs
def AV.renL (l:List Nat):List AV -> List AV
 | []=>[]
 | a :: l2=>a.ren l :: AV.renL l l2
end
theorem be (l:List Nat):∀ l2:List AV,AV.renL l l2=l2.map (·.ren l)
 | []=>rfl
 | a :: l2=>by simp [AV.renL,be l l2]
def rj (bu:Nat) (ids:List Nat) (id:Nat):Prop:=id ∈ ids \/ bu<=id
def lj:Nat -> List aE -> af
 | _,[]=>[]
 | k,o :: l=>(k,some o) :: lj (k+1) l
def qP:aE -> Prop
 | .row _ _ _=>True
 | .map _=>True
 | _=>False
def MU (P:Program) (f:FuncId) (t:TypeId) (cells:List AV) (objs:List aE) (args:List AV) (Post:AV -> List AV -> List aE -> Prop):Prop:=
 fY P f /\ AV.ltL (objs.length+1) cells /\ ∀ (cx:Cx) (w:World) (L:Nat -> Value) (vs:Array Value),im cx w (lj 0 (.box t cells :: objs)) L -> vs.size=args.length ->
  (∀ (j:Nat) (x:Value) (av:AV),vs[j]? = some x -> args[j]? = some av -> bx cx w (lj 0 (.box t cells :: objs)) L x av) ->
  Calls P f vs w fun e w'=>∃ v av cells' objs' L',e=.returned v /\ Post av cells' objs' /\ im cx w' (lj 0 (.box t cells' :: objs')) L' /\ RT w' (Sx cx w' (lj 0 (.box t cells' :: objs')) L') v av /\ L' 0=L 0 /\ cells'.length=cells.length /\
   AV.ltL (objs'.length+1) cells' /\ (∀ o ∈ objs',qP o) /\ Fz w (lj 0 (.box t cells :: objs)) L w' (lj 0 (.box t cells' :: objs')) L'
def yb (tab:af):List Nat -> List aE -> Prop
 | [],[]=>True
 | i :: is,o :: os=>(tab.get i=some o /\ qP o) /\ yb tab is os
 | _,_=>False
def qU (st:aj) (b:Nat) (ids:List Nat) (t:TypeId) (cells:List AV) (objs:List aE):af:=
 (b,some (.box t (AV.renL (b :: List.range' st.next objs.length) cells))) :: (lj st.next objs ++ (ids.map (fun i=>(i,none)) ++ st.tab))
def Jv (u:Option (Nat × List Nat)) (P:Program) (st:aj) (f:FuncId) (avs:List AV) (K:AV -> aj -> Prop):Prop:=
 ∃ (t:TypeId) (cells:List AV) (objs:List aE) (args:List AV) (Post:AV -> List AV -> List aE -> Prop) (b:Nat) (ids:List Nat),MU P f t cells objs args Post /\ avs=AV.renL (b :: ids) args /\
  st.tab.get b=some (.box t (AV.renL (b :: ids) cells)) /\ yb st.tab ids objs /\ (b :: ids).Nodup /\ (∀ p,u=some p -> ∀ id ∈ b :: ids,rj p.1 p.2 id) /\
  ∀ av cells' objs',Post av cells' objs' -> K av { st with tab:=qU st b ids t cells' objs',next:=st.next+objs'.length }
def Nn (u:Option (Nat × List Nat)) (P:Program) (st:aj) (f:FuncId) (avs:List AV) (K:AV -> aj -> Prop):Prop:=
 ∃ ids,AV.ltL st.next avs /\ (∀ p,u=some p -> ∀ id ∈ ids,rj p.1 p.2 id) /\ x7 P (gt st ids) f (iL st ids avs) K
def wO (u:Option (Nat × List Nat)) (P:Program) (st:aj) (f:FuncId) (avs:List AV) (K:AV -> aj -> Prop):Prop:=Jv u P st f avs K \/ Nn u P st f avs K
def gy (u:Option (Nat × List Nat)) (P:Program) (st:aj) (f:FuncId) (avs:List AV) (K:AV -> aj -> Prop):Prop:=ox P st f avs K \/ (u=none /\ (Ap P st f avs K \/ zj P st f avs K)) \/ wO u P st f avs K
section
variable {P:Program} {cx:Cx} {a:Act} {w w':World} {tab:af} {st:aj} {L:Nat -> Value} {nx:Nat}
theorem wA {e:TypeId} {sz:Nat} {v:Value} {rows:List (List AV)} (h:gw cx w tab L v (.row e sz rows)):RT w (fun b=>b<w.heap.size) v (.sl sz rows):=by
 obtain ⟨hrow,xs,hown,hone,hx⟩:=h
 have hm:∀ i j row av,rows[i]? = some row -> row[j]? = some av -> (xs[i * sz+j]?.getD undef).oneCell'=true /\ RT w (fun b=>b<w.heap.size) (xs[i * sz+j]?.getD undef) av /\ ∃ x,xs[i * sz+j]? = some x:=fun i j row av h1 h2=>by
  obtain ⟨x,hx1,hx2⟩:=hx i j row av h1 h2;rw [hx1];exact ⟨hone x (Nr hx1),hx2.mono (fun _ _=>rfl) (fun b hb=>hb.1),x,rfl⟩
 rcases hown.2 with ⟨rfl,h0⟩|⟨g,cap,cur,rfl,hb,hg,hc,hm',_⟩
 .exact .sl none _ 0 sz rows 0 0 (fun i j=>xs[i * sz+j]?.getD undef) h0.symm (Nz _) (by omega) (fun h=>by omega) hrow (fun h=>by omega) (fun i j row av h1 h2=>(hm i j row av h1 h2).1) (fun i j row av h1 h2=>(hm i j row av h1 h2).2.1)
 .refine .sl _ _ cap sz rows g 0 (fun i j=>xs[i * sz+j]?.getD undef) rfl hc (by simpa [maxLen] using hm') (fun _=>⟨rfl,(N8.1 hg).1⟩) hrow (fun _ i j row av h1 h2=>?_) (fun i j row av h1 h2=>(hm i j row av h1 h2).1) (fun i j row av h1 h2=>(hm i j row av h1 h2).2.1);obtain ⟨x,hx⟩:=(hm i j row av h1 h2).2.2;have:=hown.cells (g:=g) rfl _ x hx;rw [ke] at this;rw [hx,Pv];exact this
theorem r9 {e:TypeId} {sz:Nat} {v:Value} {rows:List (List AV)} (f:AV -> AV) (hf:∀ x av,bx cx w tab L x av -> RT w (fun b=>b<w.heap.size) x (f av)) (h:gw cx w tab L v (.nest e sz rows)):RT w (fun b=>b<w.heap.size) v (.sl sz (rows.map fun row=>row.map f)):=by
 obtain ⟨hrow,xs,hown,hone,hx⟩:=h
 have hg:∀ i j (row:List AV) (av:AV),(rows.map fun row=>row.map f)[i]? = some row -> row[j]? = some av -> ∃ row' av',rows[i]? = some row' /\ row'[j]? = some av' /\ av=f av':=fun i j row av h1 h2=>by
  rw [Nu] at h1
  cases hi:rows[i]? with
  | none=>simp [hi] at h1
  | some row'=>
   simp [hi] at h1;subst h1;rw [Nu] at h2
   cases hj:row'[j]? with
   | none=>simp [hj] at h2
   | some av'=>
    simp [hj] at h2;exact ⟨row',av',hi,hj,h2.symm⟩
 have hm:∀ i j (row:List AV) (av:AV),(rows.map fun row=>row.map f)[i]? = some row -> row[j]? = some av -> (xs[i * sz+j]?.getD undef).oneCell'=true /\ RT w (fun b=>b<w.heap.size) (xs[i * sz+j]?.getD undef) av /\ ∃ x,xs[i * sz+j]? = some x:=fun i j row av h1 h2=>by
  obtain ⟨row',av',h3,h4,rfl⟩:=hg i j row av h1 h2;obtain ⟨x,hx1,hx2⟩:=hx i j row' av' h3 h4;rw [hx1];exact ⟨hone x (Nr hx1),hf x av' hx2,x,rfl⟩
 have hrow':∀ row ∈ (rows.map fun row=>row.map f),row.length=sz:=fun row hr=>by
  obtain ⟨r,h1,rfl⟩:=NC.1 hr;rw [NI];exact hrow r h1
 rcases hown.2 with ⟨rfl,h0⟩|⟨g,cap,cur,rfl,hb,hgh,hc,hm',_⟩
 .exact .sl none _ 0 sz _ 0 0 (fun i j=>xs[i * sz+j]?.getD undef) (by rw [NI];exact h0.symm) (Nz _) (by omega) (fun h=>by omega) hrow' (fun h=>by omega) (fun i j row av h1 h2=>(hm i j row av h1 h2).1) (fun i j row av h1 h2=>(hm i j row av h1 h2).2.1)
 .refine .sl _ _ cap sz _ g 0 (fun i j=>xs[i * sz+j]?.getD undef) (by rw [NI]) hc (by simpa [maxLen] using hm') (fun _=>⟨rfl,(N8.1 hgh).1⟩) hrow' (fun _ i j row av h1 h2=>?_) (fun i j row av h1 h2=>(hm i j row av h1 h2).1) (fun i j row av h1 h2=>(hm i j row av h1 h2).2.1);obtain ⟨x,hx⟩:=(hm i j row av h1 h2).2.2;have:=hown.cells (g:=g) rfl _ x hx;rw [ke] at this;rw [hx,Pv];exact this
theorem nh {x:Value} {av:AV} (h:bx cx w tab L x av):RT w (fun b=>b<w.heap.size) x (l7 av):=by
 cases av with
 | c v=>
  obtain rfl:=h.c_inv;exact .c x
 | sl sz rows=>exact h.sl_inv.mono (fun _ _=>rfl) fun b hb=>hb.1
 | rp cs=>exact (show RT w (Sx cx w tab L) x (.rp cs) by cases h with | tree h=>exact h).mono (fun _ _=>rfl) fun b hb=>hb.1
 | _=>exact .any _
theorem CT (hL:im cx w tab L) {x:Value} {av:AV} (h:bx cx w tab L x av):RT w (fun b=>b<w.heap.size) x (mu tab av):=by
 cases av with
 | osl id=>
  unfold mu;simp only;split
  .rename_i e sz rows hid;rw [(mh hL hid h).1];exact wA (hL.objs id _ hid)
  .rename_i e sz rows hid;rw [(i7 hL hid h).1];exact r9 l7 (fun x av h=>nh h) (hL.objs id _ hid)
  .exact .any _
 | c v=>exact nh h
 | sl sz rows=>exact nh h
 | rp cs=>exact nh h
 | _=>exact .any _
theorem cR (hL:im cx w tab L) {x:Value} {av:AV} (h:bx cx w tab L x av):RT w (fun b=>b<w.heap.size) x (fh tab av):=by
 cases av with
 | osl id=>
  unfold fh;simp only;split
  .rename_i e sz rows hid;rw [h.osl_inv _ _ (cD hid)];exact wA (hL.objs id _ hid)
  .rename_i e sz rows hid;rw [(i7 hL hid h).1];exact r9 (mu tab) (fun x av h=>CT hL h) (hL.objs id _ hid)
  .exact .any _
 | op=>exact .any _
 | agg=>exact .any _
 | tup=>exact .any _
 | fn=>exact .any _
 | bfn=>exact .any _
 | _=>
  cases h with
  | tree h=>exact h.mono (fun _ _=>rfl) (fun b hb=>hb.1)
theorem wJ (hL:im cx w tab L) {x:Value} {av:AV} (h:bx cx w tab L x av):RT w (fun b=>b<w.heap.size) x (gm tab av):=by
 cases av with
 | agg cs=>
  obtain ⟨xs,rfl,hn,hr⟩:=h.agg_inv;refine .agg xs _ (by simpa using hn) fun j x av h1 h2=>?_;rw [Nu] at h2
  cases hj:cs[j]? with
  | none=>simp [hj] at h2
  | some av'=>
   simp [hj] at h2;subst h2;exact cR hL (hr j x av' h1 hj)
 | op id i j=>
  unfold gm;simp only;split
  .rename_i t cells hid;split
   .rename_i h0;subst h0;obtain ⟨g,hg,rfl⟩:=h.op_inv _ _ (cD hid);have hob:=hL.objs id _ hid;rw [PF,Pv]
    have key:∀ k av,((cells.drop j).map (fh tab))[k]? = some av -> ∃ u,w.cell? ⟨g,j+k,none⟩=some u /\ RT w (fun b=>b<w.heap.size) u av:=fun k av hk=>by
     rw [Nu,Og] at hk
     cases hc:cells[j+k]? with
     | none=>simp [hc] at hk
     | some av'=>
      simp [hc] at hk;subst hk;obtain ⟨u,h1,h2⟩:=nR hob hg (j+k) av' hc;exact ⟨u,h1,cR hL h2⟩
    refine .rp g j _ (fun k=>(w.cell? ⟨g,j+k,none⟩).getD undef) (hob.ge hg).2 (fun k av hk=>?_) (fun k av hk=>?_)
    .obtain ⟨u,h1,h2⟩:=key k av hk;simp [h1]
    .obtain ⟨u,h1,h2⟩:=key k av hk;simpa [h1] using h2
   .exact .any _
  .rename_i e sz rows hid;split
   .rename_i hi;obtain ⟨g,hg,rfl⟩:=h.op_inv _ _ (cD hid);have hob:=hL.objs id _ hid
    have key:∀ k av,((rows[i]?.getD []).drop j)[k]? = some av -> ∃ u,w.cell? ⟨g,i * sz+j+k,none⟩=some u /\ RT w (fun b=>b<w.heap.size) u av:=fun k av hk=>by
     rw [Og] at hk;obtain ⟨u,h1,h2⟩:=nN hob hg hi (j+k) av hk;rw [<- O6] at h1;exact ⟨u,h1,h2.mono (fun _ _=>rfl) (fun b hb=>hb.1)⟩
    refine .rp g (i * sz+j) _ (fun k=>(w.cell? ⟨g,i * sz+j+k,none⟩).getD undef) (hob.ge hg).2 (fun k av hk=>?_) (fun k av hk=>?_)
    .obtain ⟨u,h1,h2⟩:=key k av hk;simp [h1]
    .obtain ⟨u,h1,h2⟩:=key k av hk;simpa [h1] using h2
   .exact .any _
  .exact .any _
 | osl id=>exact cR hL h
 | tup=>exact .any _
 | fn=>exact .any _
 | bfn=>exact .any _
 | any=>exact cR hL h
 | c v=>exact cR hL h
 | sl sz rows=>exact cR hL h
 | rp cs=>exact cR hL h
theorem Ac (hL:im cx w tab L) {x:Value} {av:AV} (h:bx cx w tab L x av):RT w (fun b=>b<w.heap.size) x (fE tab av):=by
 cases av with
 | agg cs=>
  obtain ⟨xs,rfl,hn,hr⟩:=h.agg_inv;refine .agg xs _ (by simpa using hn) fun j x av h1 h2=>?_;rw [Nu] at h2
  cases hj:cs[j]? with
  | none=>simp [hj] at h2
  | some av'=>
   simp [hj] at h2;subst h2;exact cR hL (hr j x av' h1 hj)
 | op id i j=>
  unfold fE;simp only;split
  .rename_i t cells hid;split
   .rename_i h0;subst h0;obtain ⟨g,hg,rfl⟩:=h.op_inv _ _ (cD hid);have hob:=hL.objs id _ hid;rw [PF,Pv]
    have key:∀ k av,((cells.drop j).map (fh tab))[k]? = some av -> ∃ u,w.cell? ⟨g,j+k,none⟩=some u /\ RT w (fun b=>b<w.heap.size) u av:=fun k av hk=>by
     rw [Nu,Og] at hk
     cases hc:cells[j+k]? with
     | none=>simp [hc] at hk
     | some av'=>
      simp [hc] at hk;subst hk;obtain ⟨u,h1,h2⟩:=nR hob hg (j+k) av' hc;exact ⟨u,h1,cR hL h2⟩
    refine .rp g j _ (fun k=>(w.cell? ⟨g,j+k,none⟩).getD undef) (hob.ge hg).2 (fun k av hk=>?_) (fun k av hk=>?_)
    .obtain ⟨u,h1,h2⟩:=key k av hk;simp [h1]
    .obtain ⟨u,h1,h2⟩:=key k av hk;simpa [h1] using h2
   .exact .any _
  .rename_i e sz rows hid;split
   .rename_i hi;obtain ⟨g,hg,rfl⟩:=h.op_inv _ _ (cD hid);have hob:=hL.objs id _ hid
    have key:∀ k av,((rows[i]?.getD []).drop j)[k]? = some av -> ∃ u,w.cell? ⟨g,i * sz+j+k,none⟩=some u /\ RT w (fun b=>b<w.heap.size) u av:=fun k av hk=>by
     rw [Og] at hk;obtain ⟨u,h1,h2⟩:=nN hob hg hi (j+k) av hk;rw [<- O6] at h1;exact ⟨u,h1,h2.mono (fun _ _=>rfl) (fun b hb=>hb.1)⟩
    refine .rp g (i * sz+j) _ (fun k=>(w.cell? ⟨g,i * sz+j+k,none⟩).getD undef) (hob.ge hg).2 (fun k av hk=>?_) (fun k av hk=>?_)
    .obtain ⟨u,h1,h2⟩:=key k av hk;simp [h1]
    .obtain ⟨u,h1,h2⟩:=key k av hk;simpa [h1] using h2
   .exact .any _
  .exact .any _
 | osl id=>exact cR hL h
 | tup=>exact .any _
 | fn f cs=>
  obtain ⟨xs,rfl,hn,hr⟩:=h.fn_inv;refine .fn f xs _ (by simpa using hn) fun j x av h1 h2=>?_;rw [Nu] at h2
  cases hj:cs[j]? with
  | none=>simp [hj] at h2
  | some av'=>
   simp [hj] at h2;subst h2;exact wJ hL (hr j x av' h1 hj)
 | bfn f cs=>
  obtain ⟨xs,rfl,hn,hr⟩:=h.bfn_inv;refine .bfn f xs _ (by simpa using hn) fun j x av h1 h2=>?_;rw [Nu] at h2
  cases hj:cs[j]? with
  | none=>simp [hj] at h2
  | some av'=>
   simp [hj] at h2;subst h2;exact wJ hL (hr j x av' h1 hj)
 | any=>exact cR hL h
 | c v=>exact cR hL h
 | sl sz rows=>exact cR hL h
 | rp cs=>exact cR hL h
theorem H6 {x:Value} {av:AV} (h:bx cx w tab L x av) (hr:yS av):RT w (Sx cx w tab L) x (fE tab av):=by
 cases av with
 | agg cs=>
  obtain ⟨xs,rfl,hn,hx⟩:=h.agg_inv;refine .agg xs _ (by simpa using hn) fun j x av h1 h2=>?_;rw [Nu] at h2
  cases hj:cs[j]? with
  | none=>simp [hj] at h2
  | some av'=>
   simp [hj] at h2;subst h2;have ht:=fo.1 hr av' (Nr hj);have:=eV (hx j x av' h1 hj) ht;cases av'<;>first|exact ht.elim|exact this
 | osl=>exact hr.elim
 | op=>exact hr.elim
 | tup=>exact hr.elim
 | fn f cs=>
  obtain ⟨xs,rfl,hn,hx⟩:=h.fn_inv;refine .fn f xs _ (by simpa using hn) fun j x av h1 h2=>?_;rw [Nu] at h2
  cases hj:cs[j]? with
  | none=>simp [hj] at h2
  | some av'=>
   simp [hj] at h2;subst h2;have ht:=fo.1 hr av' (Nr hj);have:=eV (hx j x av' h1 hj) ht;cases av'<;>first|exact ht.elim|exact this
 | bfn f cs=>
  obtain ⟨xs,rfl,hn,hx⟩:=h.bfn_inv;refine .bfn f xs _ (by simpa using hn) fun j x av h1 h2=>?_;rw [Nu] at h2
  cases hj:cs[j]? with
  | none=>simp [hj] at h2
  | some av'=>
   simp [hj] at h2;subst h2;have ht:=fo.1 hr av' (Nr hj);have:=eV (hx j x av' h1 hj) ht;cases av'<;>first|exact ht.elim|exact this
 | any=>exact eV h trivial
 | c v=>exact eV h trivial
 | sl sz rows=>exact eV h trivial
 | rp cs=>exact eV h trivial
theorem wZ {f:FuncId} {vs:Array Value} {avs:List AV} {K:AV -> aj -> Prop} (h:aG cx a w st L) (hn:vs.size=avs.length) (hv:∀ (j:Nat) (v:Value) (av:AV),vs[j]? = some v -> avs[j]? = some av -> bx cx w st.tab L v av) (hK:x7 P st f avs K) (dst:Option Nat) :
  Calls P f vs w fun e w'=>∃ v av st' L',e=.returned v /\ K av st' /\ aG cx (a.put dst v) w' (st'.put dst av) L' /\ Below w.heap.size w w' /\ (∀ id,id<st.next -> st'.tab.get id=st.tab.get id /\ L' id=L id) /\ (∀ id o g,st.next<=id -> st'.tab.get id=some o -> aF (L' id)=some g -> w.heap.size<=g) /\ st.next<=st'.next:=by
 obtain ⟨Post,⟨_,hdet⟩,hK⟩:=hK
 obtain ⟨S,hS1,hS2,hSv⟩:∃ S:Nat -> Prop,HJ w S /\ ((∀ b,S b -> Sx cx w st.tab L b) \/ ¬ pi avs) /\ ∀ (j:Nat) (v:Value) (av:AV),vs[j]? = some v -> (avs.map (fE st.tab))[j]? = some av -> RT w S v av:=by
  by_cases hro:pi avs
  .refine ⟨Sx cx w st.tab L,h.lay.sok,.inl fun b hb=>hb,fun j v av h1 h2=>?_⟩;rw [Nu] at h2
   cases hj:avs[j]? with
   | none=>simp [hj] at h2
   | some av'=>
    simp [hj] at h2;subst h2;exact H6 (hv j v av' h1 hj) (zB.1 hro av' (Nr hj))
  .refine ⟨fun b=>b<w.heap.size,⟨fun b hb=>hb,h.lay.amb,fun b hb=>NH hb h.lay.amb.le⟩,.inr hro,fun j v av h1 h2=>?_⟩;rw [Nu] at h2
   cases hj:avs[j]? with
   | none=>simp [hj] at h2
   | some av'=>
    simp [hj] at h2;subst h2;exact Ac h.lay (hv j v av' h1 hj)
 refine (hdet S w vs hS1 (by simpa using hn) hSv).mono ?_;rintro e w' ⟨v,L2,R,hPost,hok,rfl,hlay,hr⟩;obtain ⟨hro,hK⟩:=hK R hPost
 have hS2:(∀ b,S b -> Sx cx w st.tab L b) \/ (R.r.plain /\ R.tab.plain):=by
  rcases hro with hro|hp
  .exact .inl (hS2.resolve_right fun hn=>hn hro)
  .exact .inr hp
 have hbw:cx.w0.heap.size<=w.heap.size:=h.lay.below.size;have hbel:Below w.heap.size w w':=hlay.below.below fun b hb=>hb;have hget:=nE (tab:=st.tab) (k:=st.next) (fun id o hid=>(h.young id o hid).1) R.tab
 let L':Nat -> Value:=fun id=>if id<st.next then L id else L2 (id - st.next)
 have hL1:∀ id,id<st.next -> L' id=L id:=fun id hid=>ND hid;have hL2:∀ id,¬ id<st.next -> L' id=L2 (id - st.next):=fun id hid=>Ny hid
 have hnew:∀ id o,st.next<=id -> (R.tab.shift st.next ++ st.tab).get id=some o -> ∃ o',R.tab.get (id - st.next)=some o' /\ o=o'.shift st.next:=fun id o h1 h2=>by
  rw [hget,Ny (by omega)] at h2
  cases ho:R.tab.get (id - st.next) with
  | none=>simp [ho] at h2
  | some o'=>
   simp [ho] at h2;exact ⟨o',rfl,h2.symm⟩
 have hge:∀ id o g,R.tab.get id=some o -> aF (L2 id)=some g -> w.heap.size<=g:=fun id o g h1 h2=>((hlay.objs id o h1).ge h2).1;have hold:∀ id,id<st.next -> (R.tab.shift st.next ++ st.tab).get id=st.tab.get id /\ L' id=L id:=fun id hid=>⟨by rw [hget,ND hid],hL1 id hid⟩
 have hnew':∀ id o g,st.next<=id -> (R.tab.shift st.next ++ st.tab).get id=some o -> aF (L' id)=some g -> w.heap.size<=g:=fun id o g h1 h2 h3=>by
  obtain ⟨o',ho,_⟩:=hnew id o h1 h2;rw [hL2 id (by omega)] at h3;exact hge _ o' g ho h3
 have hext:kP cx w st.tab L st.next w' (R.tab.shift st.next ++ st.tab) L':=f8 hbel hold (fun id o hid=>(h.young id o hid).1) hnew';have hsz:∀ (o:aE) k,(o.shift k).sz=o.sz:=fun o k=>by cases o<;>simp [aE.shift,aE.sz,a8]
 have hKx:∀ id p,Kx (R.tab.shift st.next ++ st.tab) L' (id+st.next)=some p -> Kx R.tab L2 id=some p:=fun id p hk=>by
  unfold Kx at *;rw [hget,Ny (by omega),hL2 _ (by omega),O9] at hk
  cases ho:R.tab.get id with
  | none=>simp [ho] at hk
  | some o=>simpa [ho,hsz] using hk
 have hsub:(∀ b,Sx (Cx.mk0 S w hS1) w' R.tab L2 b -> Sx cx w' (R.tab.shift st.next ++ st.tab) L' b) \/ (R.r.plain /\ R.tab.plain):=by
  rcases hS2 with hS2|hp
  .refine .inl fun b hb=>⟨hb.1,?_,fun id o hid hg=>?_⟩
   .rcases hb.2.1.1 with h1 | h1
    .exact (hS2 b h1).2.1
    .exact ⟨.inr (N2 hbw h1),fun hX=>absurd (h.lay.ex b hX).1 (Nat.not_lt.2 h1)⟩
   .by_cases hlt:id<st.next
    .rw [hget,ND hlt] at hid;rw [hL1 id hlt] at hg;rcases hb.2.1.1 with h1|h1
     .exact (hS2 b h1).2.2 id o hid hg
     .have:=((h.lay.objs id o hid).ge hg).2;have h1:w.heap.size<=b:=h1;omega
    .obtain ⟨o',ho,_⟩:=hnew id o (by omega) hid;rw [hL2 id hlt] at hg;exact hb.2.2 _ o' ho hg
  .exact .inr hp
 refine ⟨v,R.r.shift st.next,{ st with tab:=R.tab.shift st.next ++ st.tab,next:=st.next+R.n },L',rfl,hK,eQ h (i5 h.lay h.young hbel hold (fun id o h1 h2=>?_) hnew' fun id id' o o' g h1 h2 h3 h4 h5 h6=>?_) hext (Pi _ _) (fun id o hid=>?_) (hr.conv (hsub.imp (fun h=>h) (·.1)) hKx) (gr hok.lt) dst,hbel,hold,hnew',Pi _ _⟩
 .obtain ⟨o',ho,rfl⟩:=hnew id o h1 h2;rw [hL2 id (by omega)];have hob:=hlay.objs _ o' ho;have hpl:R.tab.plain -> o'.plain:=fun hp=>nM hp ho
  cases o' with
  | box t cells=>
   obtain ⟨g,cs,h3,h4,h5,h6,h7⟩:=hob;refine ⟨g,cs,h3,N2 hbw h4,h5,by simpa [a8] using h6,fun j x av h8 h9=>?_⟩;rw [a8,Nu] at h9
   cases hj:cells[j]? with
   | none=>simp [hj] at h9
   | some av'=>
    simp [hj] at h9;subst h9;exact ⟨(h7 j x av' h8 hj).1.conv (hsub.imp (fun h=>h) fun hp=>cU.1 (hpl hp.2) _ (Nr hj)) hKx,(h7 j x av' h8 hj).2⟩
  | row e sz rows=>
   obtain ⟨h3,xs,hown,h5,h6⟩:=hob;refine ⟨h3,xs,hown.base hbw,h5,fun i j row av h7 h8=>?_⟩;obtain ⟨x,hx,hrt⟩:=h6 i j row av h7 h8;refine ⟨x,hx,?_⟩;rcases hsub with hs|hp
   .exact hrt.mono (fun _ _=>rfl) hs
   .exact hrt.plain (hpl hp.2 row (Nr h7) av (Nr h8))
  | nest e sz rows=>
   obtain ⟨h3,xs,hown,h5,h6⟩:=hob;refine ⟨fun row hr=>?_,xs,by rw [NI];exact hown.base hbw,h5,fun i j row av h7 h8=>?_⟩
   .obtain ⟨r,hr',rfl⟩:=NC.1 hr;rw [a8,NI];exact h3 r hr'
   .rw [Nu] at h7
    cases hi:rows[i]? with
    | none=>simp [hi] at h7
    | some row'=>
     simp [hi] at h7;subst h7;rw [a8,Nu] at h8
     cases hj:row'[j]? with
     | none=>simp [hj] at h8
     | some av'=>
      simp [hj] at h8;subst h8;obtain ⟨x,h9,h10⟩:=h6 i j row' av' hi hj;exact ⟨x,h9,h10.conv (hsub.imp (fun h=>h) fun hp=>hpl hp.2 row' (Nr hi) av' (Nr hj)) hKx⟩
  | map ents=>
   obtain ⟨g,es,ck,h3,h4,h5,h6⟩:=hob;exact ⟨g,es,ck,h3,N2 hbw h4,h5,h6⟩
  | ghost vs env=>
   refine ⟨hob.1,fun t ht=>?_⟩;rw [gK];exact (hob.2 t ht).conv (hsub.imp (fun h=>h) fun hp=>(hpl hp.2).elim) hKx
 .obtain ⟨o1,ho1,_⟩:=hnew id o h1 h3;obtain ⟨o2,ho2,_⟩:=hnew id' o' h2 h4;rw [hL2 id (by omega)] at h5;rw [hL2 id' (by omega)] at h6;have:=hlay.sep _ _ o1 o2 g ho1 ho2 h5 h6;omega
 .by_cases hlt:id<st.next
  .rw [hget,ND hlt] at hid;have hy:=h.young id o hid;refine ⟨by omega,?_⟩
   cases o with
   | box t cells=>exact ag.2 fun x hx=>AV.lt_mono (Pi _ _) (ag.1 hy.2 x hx)
   | row=>trivial
   | map=>trivial
   | nest e sz rows=>exact fun row hr=>ag.2 fun x hx=>AV.lt_mono (Pi _ _) (ag.1 (hy.2 row hr) x hx)
   | ghost vs env=>exact cW (Pi _ _) hy.2
  .obtain ⟨o',ho,rfl⟩:=hnew id o (by omega) hid;have hy:=hok.young _ o' ho;refine ⟨by omega,?_⟩
   cases o' with
   | box t cells=>
    simp only [aE.shift,aE.lt,a8];refine ag.2 fun x hx=>?_;obtain ⟨y,hy',rfl⟩:=NC.1 hx;exact gr (ag.1 hy.2 y hy')
   | row=>trivial
   | nest e sz rows=>
    intro row hr;obtain ⟨r,hr',rfl⟩:=NC.1 hr;rw [a8];refine ag.2 fun x hx=>?_;obtain ⟨y,hy',rfl⟩:=NC.1 hx;exact gr (ag.1 (hy.2 r hr') y hy')
   | map=>trivial
   | ghost vs env=>exact kj hy.2
theorem vS (h:aG cx a w st L) (hb:Below w.heap.size w w'):aG cx a w' st L:=by
 have hext:kP cx w st.tab L st.next w' st.tab L:=f8 hb (fun id _=>⟨rfl,rfl⟩) (fun id o hid=>(h.young id o hid).1) (fun id o g h1 h2 _=>by have:=(h.young id o h2).1;omega);refine ⟨i5 h.lay h.young hb (fun id _=>⟨rfl,rfl⟩) (fun id o h1 h2=>?_) (fun id o g h1 h2 _=>?_) (fun id id' o o' g h1 _ h2 _ _ _=>?_),h.size,h.defers.mono hext.blk hext.sub,h.young,fun t=>⟨hext.rv (h.env t).1 (h.env t).2,(h.env t).2⟩⟩
 .have:=(h.young id o h2).1;omega
 .have:=(h.young id o h2).1;omega
 .have:=(h.young id o h2).1;omega
theorem mj {f:FuncId} {vs:Array Value} {avs:List AV} {K:AV -> aj -> Prop} (h:aG cx a w st L) (hn:vs.size=avs.length) (hv:∀ (j:Nat) (v:Value) (av:AV),vs[j]? = some v -> avs[j]? = some av -> bx cx w st.tab L v av) (hK:ox P st f avs K) (dst:Option Nat) :
  Calls P f vs w fun e w'=>∃ v av st' L',e=.returned v /\ K av st' /\ aG cx (a.put dst v) w' (st'.put dst av) L' /\ Below w.heap.size w w' /\ (∀ id,id<st.next -> st'.tab.get id=st.tab.get id /\ L' id=L id) /\ (∀ id o g,st.next<=id -> st'.tab.get id=some o -> aF (L' id)=some g -> w.heap.size<=g) /\ st.next<=st'.next:=by
 rcases hK with hK|⟨_,v,hK,hs⟩
 .exact wZ h hn hv hK dst
 .refine (hs cx a w L vs h hn hv).mono fun e w' ⟨h1,h2⟩=>⟨v,.c v,st,L,h1,hK,ba (vS h h2) (.tree (.c v)) trivial dst,h2,fun id _=>⟨rfl,rfl⟩,fun id o g h3 h4 _=>?_,Nz _⟩;have:=(h.young id o h4).1;omega
theorem wD {sz:Nat} {vals:List (List Value)} {xs:List Value} (hs:∀ r ∈ vals,r.length=sz) (hl:xs.length=vals.length * sz) (hx:∀ (i j:Nat) (hi:i<vals.length) (hj:j<(vals[i]).length),xs[i * sz+j]? = some (vals[i])[j]):xs=vals.flatten:=by
 have hfl:vals.flatten.length=vals.length * sz:=by
  have:=nq id sz vals hs
  rwa [List.flatMap_id] at this
 apply Oh;intro k;by_cases hk:k<vals.length * sz
 .have h0:0<sz:=by
   rcases Nat.eq_zero_or_pos sz with h|h
   .subst h;omega
   .exact h
  have hi:k / sz<vals.length:=(Nat.div_lt_iff_lt_mul h0).2 hk;have hj:k % sz<sz:=Nat.mod_lt _ h0;have e:k=k / sz * sz+k % sz:=by rw [Nat.mul_comm];exact (Nat.div_add_mod k sz).symm
  have hj':k % sz<(vals[k / sz]).length:=by rw [hs _ (Nt hi)];exact hj
  have h1:=hx (k / sz) (k % sz) hi hj';have h2:=km id sz vals hs (k / sz) (k % sz) hi hj;rw [List.flatMap_id] at h2;rw [<- e] at h1 h2;rw [h1,h2];exact (Nq hj').symm
 .rw [NN (by omega),NN (by omega)]
theorem LI {f:FuncId} {vs:Array Value} {avs:List AV} {K:AV -> aj -> Prop} (h:aG cx a w st L) (hn:vs.size=avs.length) (hv:∀ (j:Nat) (v:Value) (av:AV),vs[j]? = some v -> avs[j]? = some av -> bx cx w st.tab L v av) (hK:Mx P st f avs K) (dst:Option Nat) :
  Calls P f vs w fun e w'=>∃ v av st' L',e=.returned v /\ K av st' /\ aG cx (a.put dst v) w' (st'.put dst av) L' /\ Fr cx w st.tab L st.next w' st'.tab L' st'.next:=by
 obtain ⟨id,e,sz,vals,rest,vals',rfl,hid,hupd,hval,hk⟩:=hK
 have hvs:∃ v,vs=(v :: rest).toArray /\ v=L id:=by
  simp only [NZ,NI] at hn;have h0:0<vs.size:=by omega
  refine ⟨vs[0],?_,(hv 0 _ _ (Nx h0) rfl).osl_inv _ _ (cD hid)⟩;apply Array.ext
  .simp [hn]
  .intro k h1 h2
   cases k with
   | zero=>rfl
   | succ k=>
    have hk':k<rest.length:=by simp at h2;omega
    have:=(hv (k+1) vs[k+1] (.c rest[k]) (Nx h1) (by simp [hk'])).c_inv;simpa using this
 obtain ⟨v,rfl,hvL⟩:=hvs;have hbase:cx.w0.heap.size<=w.heap.size:=h.lay.below.size;obtain ⟨hrow,xs,hown,hone,hx⟩:=h.lay.objs id _ hid
 have hs:∀ r ∈ vals,r.length=sz:=fun r hr=>by
  have:=hrow (r.map .c) (NC.2 ⟨r,hr,rfl⟩);simpa using this
 have hxs:xs=vals.flatten:=wD hs (by simpa [fH] using hown.1) fun i j hi hj=>by
  obtain ⟨x,hx1,hx2⟩:=hx i j ((vals[i]).map .c) (.c (vals[i])[j]) (by simp [fH,hi]) (by simp [hj]);rw [hx1];cases hx2;rfl
 subst hxs;have hown:cO w cx.w0.heap.size e sz v vals.length vals.flatten:=by rw [hvL];simpa [fH] using hown
 refine (hupd.2 w v _ hown).mono ?_;rintro ex w' ⟨v',rfl,hown',hgrow,hblk⟩
 have vb:∀ {x:Value} {n:Nat} {l:List Value} {w:World},cO w cx.w0.heap.size e sz x n l -> aF x=x.ownBlock:=fun hh=>by
  rcases hh.2 with ⟨rfl,_⟩|⟨g,cap,cur,rfl,_⟩<;>rfl
 have hvb:=vb hown;have hvb':=vb hown';have hold_block:∀ g,v.ownBlock=some g -> ∃ id',some id=some id' /\ st.tab.get id'=some (.row e sz (fH vals)) /\ aF (L id')=some g:=fun g hg=>⟨id,rfl,hid,by rw [<- hvL,hvb];exact hg⟩;have hy':=h.young
 have hget:∀ k,k<st.next -> (bw st.tab st.next (some id) (.row e sz (fH vals'))).get k=if (some id)=some k then none else st.tab.get k:=fun k hk=>by
  rw [bn,Ny (by omega)]
 have hgetS:∀ k o,(bw st.tab st.next (some id) (.row e sz (fH vals'))).get k=some o -> (k=st.next /\ o=.row e sz (fH vals')) \/ (k<st.next /\ (some id) ≠ some k /\ st.tab.get k=some o):=fun k o hk=>by
  rw [bn] at hk;split at hk
  .rename_i e';cases hk;exact .inl ⟨e',rfl⟩
  .split at hk
   .cases hk
   .rename_i h1;exact .inr ⟨(hy' k o hk).1,h1,hk⟩
 have hLn:∀ k,k<st.next -> a6 L st.next v' k=L k:=fun k hk=>by unfold a6;rw [Ny (by omega)]
 have hLx:a6 L st.next v' st.next=v':=by simp [a6]
 -- the blocks of other objects
 have hother:∀ k o g,k<st.next -> (some id) ≠ some k -> st.tab.get k=some o -> aF (L k)=some g -> some g ≠ v.ownBlock /\ some g ≠ v'.ownBlock:=fun k o g hk hne ho hg=>by
  have h1:some g ≠ v.ownBlock:=fun e'=>by
   obtain ⟨id',hid',hti,hbi⟩:=hold_block g e'.symm;exact hne (by rw [hid',h.lay.sep id' k _ o g hti ho hbi hg])
  refine ⟨h1,fun e'=>?_⟩;exact h1 (by rw [e',hblk])
 have hext:kP cx w st.tab L st.next w' (bw st.tab st.next (some id) (.row e sz (fH vals'))) (a6 L st.next v'):=by
  refine ⟨fun p hp=>hgrow.block p hp.1 fun e'=>?_,fun b hS=>⟨NH hS.1 hgrow.size,hS.2.1,fun k o hk hg=>?_⟩,fun k p hk hK=>?_⟩
  .obtain ⟨id',_,hti,hbi⟩:=hold_block p e'.symm;exact hp.2.2 id' _ hti hbi
  .rcases hgetS k o hk with ⟨rfl,_⟩ | ⟨hlt,_,ho⟩
   .rw [hLx,hvb'] at hg;rw [hblk] at hg;obtain ⟨id',_,hti,hbi⟩:=hold_block b hg;exact hS.2.2 id' _ hti hbi
   .rw [hLn k hlt] at hg;exact hS.2.2 k o ho hg
  .unfold Kx at *;rw [hget k hk,hLn k hk] at hK;split at hK
   .cases hK
   .exact hK
 have hbel:eE cx.X cx.w0.heap.size cx.w0 w':=h.lay.below.grown hgrow hbase fun k hk=>(hown.lt k hk).1;refine ⟨v',.osl st.next,{ st with tab:=bw st.tab st.next (some id) (.row e sz (fH vals')),next:=st.next+1 },a6 L st.next v',rfl,hk,?_,hext,hgrow.size,fun k hk hne=>hgrow.block k hk fun e'=>?_,fun k o g hk hg hlt=>?_,Oc _⟩
 rotate_left
 .obtain ⟨id',_,hti,hbi⟩:=hold_block k e'.symm;exact hne id' _ hti hbi
 .rcases hgetS k o hk with ⟨rfl,_⟩ | ⟨hlt',_,ho⟩
  .rw [hLx,hvb',hblk] at hg;obtain ⟨id',_,hti,hbi⟩:=hold_block g hg;exact ⟨id',_,hti,hbi⟩
  .rw [hLn k hlt'] at hg;exact ⟨k,o,ho,hg⟩
 have hex:∀ id2 o2 g,(bw st.tab st.next (some id) (.row e sz (fH vals'))).get id2=some o2 -> aF (a6 L st.next v' id2)=some g -> g<w.heap.size -> ∃ id3 o3,st.tab.get id3=some o3 /\ aF (L id3)=some g:=fun k ok g hk hg' hlt=>by
  rcases hgetS k ok hk with ⟨rfl,_⟩|⟨hlt',_,ho⟩
  .rw [hLx,hvb',hblk] at hg';obtain ⟨id',_,hti,hbi⟩:=hold_block g hg';exact ⟨id',_,hti,hbi⟩
  .rw [hLn k hlt'] at hg';exact ⟨k,ok,ho,hg'⟩
 refine eQ h ⟨hbel,fun k o hk=>?_,fun k k' o o' g h1 h2 h3 h4=>?_,r4 h.lay hgrow.size hex⟩ hext (Oc _) (fun k o hk=>?_) ?_ (Ot _) dst
 .rcases hgetS k o hk with ⟨rfl,rfl⟩ | ⟨hlt,hne,ho⟩
  .rw [hLx];refine ⟨fun row hr=>?_,vals'.flatten,by simpa [fH] using hown',fun x hx=>?_,fun i j row av h1 h2=>?_⟩
   .obtain ⟨r,hr',rfl⟩:=NC.1 hr;simpa using (hval r hr').1
   .obtain ⟨r,hr',hx⟩:=List.mem_flatten.1 hx;exact (hval r hr').2 x hx
   .unfold fH at h1;rw [Nu] at h1
    have hi':i<vals'.length:=by
     rcases NP i vals'.length with hlt|hge
     .exact hlt
     .rw [NN hge] at h1;cases h1
    rw [Nq hi'] at h1;simp only [N9,PG] at h1;subst h1
    have hj:j<(vals'[i]).length:=by
     have:=(Nw.1 h2).1;simpa using this
    have hsz:=(hval _ (Nt hi')).1;rw [Nu,Nq hj] at h2;cases h2;have hg:=km (_root_.id) sz vals' (fun a ha=>(hval a ha).1) i j hi' (by omega);rw [List.flatMap_id] at hg;exact ⟨_,hg.trans (Nq hj),.c _⟩
  .rw [hLn k hlt];have hob:=h.lay.objs k o ho;exact hext.obj hob (hy' k o ho).2 fun g hg=>hgrow.block g (hob.ge hg).2 (hother k o g hlt hne ho hg).1
 .rcases hgetS k o h1 with ⟨rfl,rfl⟩ | ⟨hlt,hne,ho⟩<;>rcases hgetS k' o' h2 with ⟨rfl,rfl⟩ | ⟨hlt',hne',ho'⟩
  .rfl
  .rw [hLx,hvb'] at h3;rw [hLn k' hlt'] at h4;exact absurd h3.symm (hother k' o' g hlt' hne' ho' h4).2
  .rw [hLx,hvb'] at h4;rw [hLn k hlt] at h3;exact absurd h4.symm (hother k o g hlt hne ho h3).2
  .rw [hLn k hlt] at h3;rw [hLn k' hlt'] at h4;exact h.lay.sep k k' o o' g ho ho' h3 h4
 .rcases hgetS k o hk with ⟨rfl,rfl⟩ | ⟨hlt,_,ho⟩
  .exact ⟨Ot _,trivial⟩
  .refine ⟨by omega,?_⟩;have:=(hy' k o ho).2
   cases o with
   | box t cells=>exact ag.2 fun x hx=>AV.lt_mono (Oc _) (ag.1 this x hx)
   | row=>trivial
   | nest e sz rows=>exact fun row hr=>ag.2 fun x hx=>AV.lt_mono (Oc _) (ag.1 (this row hr) x hx)
   | map=>trivial
   | ghost vs env=>exact cW (Oc _) this
 .refine .osl _ _ fun sz' v'' hk=>?_;unfold Kx at hk;rw [bn,ND rfl] at hk;simp at hk;rw [hLx] at hk;exact hk.2
theorem pR.mono {w w':World} {S S':Nat -> Prop} {base:Nat} {e:TypeId} {sz:Nat} {v:Value} {rows:List (List AV)} (h:pR w S base e sz v rows) (hS:∀ b,S b -> S' b):pR w S' base e sz v rows:=
 ⟨h.1,h.2.elim fun xs ⟨h1,h2,h3⟩=>⟨xs,h1,h2,fun i j row av h4 h5=>(h3 i j row av h4 h5).elim fun x hx=>⟨x,hx.1,hx.2.mono (fun _ _=>rfl) hS⟩⟩⟩
theorem J5 {f:FuncId} {vs:Array Value} {avs:List AV} {K:AV -> aj -> Prop} (h:aG cx a w st L) (hn:vs.size=avs.length) (hv:∀ (j:Nat) (v:Value) (av:AV),vs[j]? = some v -> avs[j]? = some av -> bx cx w st.tab L v av) (hK:Mk P st f avs K) (dst:Option Nat) :
  Calls P f vs w fun e w'=>∃ v av st' L',e=.returned v /\ K av st' /\ aG cx (a.put dst v) w' (st'.put dst av) L' /\ Fr cx w st.tab L st.next w' st'.tab L' st'.next:=by
 obtain ⟨id,e,sz,rows,rows',rest,rfl,hid,htree,hmut,hk⟩:=hK;have hob:gw cx w st.tab L (L id) (.row e sz rows):=h.lay.objs id _ hid
 have hvs:∃ vr:Array Value,vs = #[L id] ++ vr /\ vr.size=rest.length /\ ∀ (j:Nat) (x:Value) (av:AV),vr[j]? = some x -> rest[j]? = some av -> RT w (Sx cx w st.tab L) x av:=by
  simp only [NZ] at hn;have h0:0<vs.size:=by omega
  have hv0:vs[0]=L id:=(hv 0 _ _ (Nx h0) rfl).osl_inv _ _ (cD hid);refine ⟨vs.extract 1 vs.size,?_,by simp;omega,fun j x av h1 h2=>?_⟩
  .apply Array.ext
   .simp;omega
   .intro k h1 h2
    cases k with
    | zero=>simpa using hv0
    | succ k=>simp [Nat.add_comm]
  .rw [Array.getElem?_extract] at h1;split at h1
   .exact p9 (hv (j+1) x av (by rw [Nat.add_comm];exact h1) (by simpa using h2)) (jy htree (Nr h2))
   .cases h1
 obtain ⟨vr,rfl,hvn,hvr⟩:=hvs;have hbase:cx.w0.heap.size<=w.heap.size:=h.lay.below.size;refine (hmut.2 (Sx cx w st.tab L) w cx.w0.heap.size (L id) vr h.lay.sok cx.amb.le hob (fun g hg hS=>hS.2.2 id _ hid hg) hvn hvr).mono ?_;rintro ex w' ⟨rfl,⟨hos,htape,hout⟩,hsize,hkeep,hrow'⟩;have ht:∀ k,af.get ((id,some (aE.row e sz rows')) :: st.tab) k=if k=id then some (aE.row e sz rows') else st.tab.get k:=fun k=>af.gc ..
 have hold:∀ k ok,af.get ((id,some (aE.row e sz rows')) :: st.tab) k=some ok -> ∃ ok',st.tab.get k=some ok':=fun k ok hk'=>by
  rw [ht] at hk';split at hk'
  .rename_i e';exact ⟨_,by rw [e'];exact hid⟩
  .exact ⟨ok,hk'⟩
 have hext:kP cx w st.tab L st.next w' ((id,some (aE.row e sz rows')) :: st.tab) L:=by
  refine ⟨fun p hp=>hkeep p hp.1 (hp.2.2 id _ hid),fun b hb=>⟨NH hb.1 hsize,hb.2.1,fun k ok hk'=>?_⟩,fun k p hlt hp=>?_⟩
  .obtain ⟨ok',h1⟩:=hold k ok hk';exact hb.2.2 k ok' h1
  .unfold Kx at *;rw [ht] at hp;split at hp
   .rename_i e';subst e';rw [hid];simpa [aE.sz] using hp
   .exact hp
 have hy:=h.young id _ hid
 have hbel:eE cx.X cx.w0.heap.size cx.w0 w':=h.lay.below.trans ⟨hos,htape,hout,hsize,fun k hk' _=>hkeep k (by omega) fun e'=>by
  have:=(hob.ge e').1;omega⟩
 have hnewS:∀ b,(Sx cx w st.tab L b \/ w.heap.size<=b) /\ b<w'.heap.size -> Sx cx w' ((id,some (aE.row e sz rows')) :: st.tab) L b:=fun b hb=>by
  rcases hb.1 with h1|h1
  .exact hext.sub b h1
  .refine ⟨hb.2,⟨.inr (by omega),fun hX=>?_⟩,fun k ok hk' hg=>?_⟩
   .have:=(h.lay.ex b hX).1;omega
   .obtain ⟨ok',h2⟩:=hold k ok hk';have:=((h.lay.objs k ok' h2).ge hg).2;omega
 have hex:∀ id2 o2 g,af.get ((id,some (aE.row e sz rows')) :: st.tab) id2=some o2 -> aF (L id2)=some g -> g<w.heap.size -> ∃ id3 o3,st.tab.get id3=some o3 /\ aF (L id3)=some g:=fun k ok g hk' hg' _=>by
  obtain ⟨ok',h2⟩:=hold k ok hk';exact ⟨k,ok',h2,hg'⟩
 refine ⟨.tuple #[],.tup [],{ st with tab:=(id,some (.row e sz rows')) :: st.tab },L,rfl,hk,eQ (nx':=st.next) (L':=L) h ⟨hbel,fun k ok hk'=>?_,fun k k' ok ok' g' h1 h2 h3 h4=>?_,r4 h.lay hsize hex⟩ hext (Nz _) (fun k ok hk'=>?_) (.tree (.tup #[] [] rfl fun j x av h1 _=>by simp at h1)) (show AV.lt st.next (.tup []) from trivial) dst,hext,hsize,fun k hk' hn'=>hkeep k hk' (hn' id _ hid),fun k ok g h1 h2 h3=>hex k ok g h1 h2 h3,Nz _⟩
 .rw [ht] at hk';split at hk'
  .rename_i e';subst e';cases hk';exact hrow'.mono (w':=w') hnewS
  .rename_i hne;exact hext.obj (h.lay.objs k ok hk') (h.young k ok hk').2 fun g' hg'=>hkeep g' ((h.lay.objs k ok hk').ge hg').2 fun e'=>hne (h.lay.sep k id ok _ g' hk' hid hg' e')
 .obtain ⟨o1,ho1⟩:=hold k ok h1;obtain ⟨o2,ho2⟩:=hold k' ok' h2;exact h.lay.sep k k' o1 o2 g' ho1 ho2 h3 h4
 .rw [ht] at hk';split at hk'
  .rename_i e';cases hk';exact ⟨by rw [e'];exact hy.1,trivial⟩
  .exact h.young k ok hk'
theorem Ah {f:FuncId} {vs:Array Value} {avs:List AV} {K:AV -> aj -> Prop} (h:aG cx a w st L) (hn:vs.size=avs.length) (hv:∀ (j:Nat) (v:Value) (av:AV),vs[j]? = some v -> avs[j]? = some av -> bx cx w st.tab L v av /\ av.lt st.next) (hK:Ap P st f avs K) (dst:Option Nat) :
  Calls P f vs w fun e w'=>∃ v av st' L',e=.returned v /\ K av st' /\ aG cx (a.put dst v) w' (st'.put dst av) L' /\ Fr cx w st.tab L st.next w' st'.tab L' st'.next:=
 hK.elim (fun hp=>LI h hn (fun j v av h1 h2=>(hv j v av h1 h2).1) hp dst) fun hK=>hK.elim (fun hp=>J5 h hn (fun j v av h1 h2=>(hv j v av h1 h2).1) hp dst) fun hp=>hp.2 cx a w L vs dst h hn hv
end
def cG.frz (R:cG) (id:Nat):cG:=
 match R.tab.get id with
 | some (.row _ sz rows)=>⟨R.r.frz id sz rows,(id,none) :: bE id sz rows R.tab,R.n⟩
 | _=>R
def cG.frzs:cG -> List Nat -> cG
 | R,[]=>R
 | R,id :: ids=>cG.frzs (R.frz id) ids
theorem dn.frz {P:Program} {f:FuncId} {args:List AV} {Post:cG -> Prop} (h:dn P f args Post) (id:Nat):dn P f args fun R=>∃ R',Post R' /\ R=R'.frz id:=
 ⟨h.1,fun S w vs h1 h2 h3=>(h.2 S w vs h1 h2 h3).mono fun e w' ⟨v,L,R,h4,h5,h6,h7,h8⟩=>by
  have key:(R.frz id).Ok /\ im (Cx.mk0 S w h1) w' (R.frz id).tab L /\ bx (Cx.mk0 S w h1) w' (R.frz id).tab L v (R.frz id).r:=by
   unfold cG.frz;split
   .rename_i e' sz rows hid;obtain ⟨h9,h10⟩:=qJ h7 (fun k o hk=>(h5.young k o hk).2) hid;refine ⟨⟨fun k o hk=>?_,lR h5.lt⟩,h9,h10 v _ h8 h5.lt⟩;simp only [af.gc,cz] at hk;split at hk
    .cases hk
    .cases hg:R.tab.get k with
     | none=>simp [hg] at hk
     | some o'=>
      simp [hg] at hk;subst hk;exact ⟨(h5.young k o' hg).1,lQ (h5.young k o' hg).2⟩
   .exact ⟨h5,h7,h8⟩
  exact ⟨v,L,R.frz id,⟨R,h4,rfl⟩,key.1,h6,key.2.1,key.2.2⟩⟩
theorem dn.drop {P:Program} {f:FuncId} {args:List AV} {Post:cG -> Prop} (h:dn P f args Post):dn P f args fun R=>∃ R',Post R' /\ ((R'.r.lt 0 /\ R=⟨R'.r,[],0⟩) \/ (¬ R'.r.lt 0 /\ R=R')):=
 ⟨h.1,fun S w vs h1 h2 h3=>(h.2 S w vs h1 h2 h3).mono fun e w' ⟨v,L,R,h4,h5,h6,h7,h8⟩=>by
  by_cases hl:R.r.lt 0
  .have hext:kP (Cx.mk0 S w h1) w' R.tab L 0 w' [] L:=⟨fun _ _=>rfl,fun b hb=>⟨hb.1,hb.2.1,fun k o hk=>(by cases hk)⟩,fun k p _ hk=>by simp [Kx,af.get] at hk⟩;exact ⟨v,L,⟨R.r,[],0⟩,⟨R,h4,.inl ⟨hl,rfl⟩⟩,⟨fun id o hk=>(by cases hk),hl⟩,h6,⟨h7.below,fun id o hk=>(by cases hk),fun id id' o o' g hk=>(by cases hk),fun b hb=>hb.elim⟩,hext.rv h8 hl⟩
  .exact ⟨v,L,R,⟨R,h4,.inr ⟨hl,rfl⟩⟩,h5,h6,h7,h8⟩⟩
theorem ax.frzs {P:Program} {f:FuncId} {args:List AV} {R:cG}:∀ (ids:List Nat) {R:cG},ax P f args R -> ax P f args (R.frzs ids)
 | [],_,h=>h
 | id :: ids,R,h=>ax.frzs ids (R:=R.frz id) ((dn.frz h id).mono fun R' ⟨R'',h1,h2⟩=>by rw [h2,h1])
theorem ax.still {P:Program} {f:FuncId} {args:List AV} {R:cG} {r:AV} (ids:List Nat) (h:ax P f args R) (hr:(R.frzs ids).r=r) (hl:r.lt 0):ax P f args ⟨r,[],0⟩:=
 (dn.drop (ax.frzs (R:=R) ids h)).mono fun R' ⟨R'',h1,h2⟩=>by
  subst h1;rcases h2 with ⟨_,h2⟩|⟨h2,_⟩
  .rw [h2,hr]
  .exact absurd (hr ▸ hl) h2
theorem nv {P:Program} {st:aj} {g:FuncId} {args:List AV} {K:AV -> aj -> Prop} {R:cG} (ids:List Nat) (h:ax P g ((iL st ids args).map (fE (gt st ids).tab)) R) (ho:pi (iL st ids args) \/ (R.r.plain /\ R.tab.plain))
  (hk:K (R.r.shift (gt st ids).next) { gt st ids with tab:=R.tab.shift (gt st ids).next ++ (gt st ids).tab,next:=(gt st ids).next+R.n }):gy none P st g args K:=
 .inr (.inl ⟨rfl,.inr ⟨ids,.inl ⟨_,h,fun R' hR=>by subst hR;exact ⟨ho,hk⟩⟩⟩⟩)
end
section
def oZ (P:Program) (t:TypeId):Option (TypeId × TypeId):=match P.underlying t with | some (.map k e)=>some (k,e) | _=>none
def tn:AV -> Option Value
 | .c v=>some v
 | .agg cs=>match qu cs with
  | some vs=>some (.agg vs.toArray)
  | none=>none
 | _=>none
def yg (ents:List (Value × Value)) (k:Value):Option Value -> Prop
 | some v=>(k,v) ∈ ents
 | none=>∀ e ∈ ents,e.1 ≠ k
def D2 (ents:List (Value × Value)) (k v:Value) (ents':List (Value × Value)):Prop:=
 (∃ j o,ents[j]? = some (k,o) /\ ents'=ents.set j (k,v)) \/ ((∀ e ∈ ents,e.1 ≠ k) /\ ents'=ents ++ [(k,v)])
def x2 (P:Program) (k:TypeId) (v:Value):Prop:=∃ l,keyOf P k v=some l
structure rl (P:Program) (k:TypeId) (ents:List (Value × Value)) (kv:Value):Prop where
 keyed:Maps.Keyed P k
 key:x2 P k kv
 all:∀ e ∈ ents,x2 P k e.1
def wv (st:aj) (r:Bool) (dst:Option Nat) (K:aj -> Prop):Prop:=
 r=true /\ K ({ st with tab:=(st.next,some (.map [])) :: st.tab,next:=st.next+1 }.put dst (.osl st.next))
def kD (ok:Bool) (z:Value):Option Value -> AV
 | some v=>if ok=true then .tup [.c v,.c (.bool true)] else .c v
 | none=>if ok=true then .tup [.c z,.c (.bool false)] else .c z
def zk (P:Program) (kt et:TypeId) (ents:List (Value × Value)) (kv:Option Value) (ok:Bool) (K:AV -> Prop):Prop:=
 match kv,bX P et with
 | some kv,some z=>rl P kt ents kv /\ ∀ r,yg ents kv r -> K (kD ok z r)
 | _,_=>False
def jB (P:Program) (t:TypeId) (tab:af) (m k:AV) (ok:Bool) (K:AV -> Prop):Prop:=
 match m with
 | .osl id=>match tab.get id,oZ P t with
  | some (.map ents),some (kt,et)=>zk P kt et ents (tn k) ok K
  | _,_=>False
 | _=>False
def pp (P:Program) (kt:TypeId) (st:aj) (id:Nat) (ents:List (Value × Value)) (k v:Option Value) (K:aj -> Prop):Prop:=
 match k,v with
 | some kv,some vv=>rl P kt ents kv /\ ∀ ents',D2 ents kv vv ents' -> K { st with tab:=(id,some (.map ents')) :: st.tab }
 | _,_=>False
def iv (P:Program) (t:TypeId) (st:aj) (m k v:AV) (K:aj -> Prop):Prop:=
 match m with
 | .osl id=>match st.tab.get id,oZ P t with
  | some (.map ents),some (kt,_)=>pp P kt st id ents (tn k) (tn v) K
  | _,_=>False
 | _=>False
def sv (P:Program) (t:TypeId) (tab:af) (m:AV) (K:AV -> Prop):Prop:=
 match m with
 | .osl id=>match tab.get id,oZ P t with
  | some (.map ents),some _=>K (.c (.int .i64 ents.length))
  | _,_=>False
 | _=>False
def y2 (P:Program) (tab:af) (ev:Operand -> AV) (args:List Operand) (ts:List TypeId) (K:AV -> Prop):Prop:=
 match args,ts with
 | [x],[t]=>sv P t tab (ev x) K
 | _,_=>False
def nZ (P:Program) (t:TypeId) (st:aj) (m:AV) (dst:Option Nat) (K:aj -> Prop):Prop:=
 match m with
 | .osl id=>match st.tab.get id,oZ P t with
  | some (.map _),some _=>K ({ st with tab:=(id,some (.map [])) :: st.tab }.put dst .any)
  | _,_=>False
 | _=>False
def tS (P:Program) (st:aj) (args:List Operand) (ts:List TypeId) (dst:Option Nat) (K:aj -> Prop):Prop:=
 match args,ts with
 | [x],[t]=>nZ P t st (a5 st x) dst K
 | _,_=>False
section
variable {P:Program} {cx:Cx} {a:Act} {w w' w'':World} {st:aj} {tab tab' tab'':af} {L L' L'':Nat -> Value} {nx nx' nx'':Nat}
theorem Fr.refl:Fr cx w tab L nx w tab L nx:=⟨kP.refl ..,Nz _,fun _ _ _=>rfl,fun id o g h1 h2 _=>⟨id,o,h1,h2⟩,Nz _⟩
theorem Fr.trans (h:Fr cx w tab L nx w' tab' L' nx') (k:Fr cx w' tab' L' nx' w'' tab'' L'' nx''):Fr cx w tab L nx w'' tab'' L'' nx'':=
  ⟨⟨fun b hb=>(k.ext.blk b (h.ext.sub b hb)).trans (h.ext.blk b hb),fun b hb=>k.ext.sub b (h.ext.sub b hb),fun id p hid hp=>h.ext.loc id p hid (k.ext.loc id p (NH hid h.next) hp)⟩,
   N2 h.size k.size,
   fun j hj hn=>(k.keep j (NH hj h.size) fun id o h1 h2=>(h.young id o j h1 h2 hj).elim fun id2 ⟨o2,h3,h4⟩=>hn id2 o2 h3 h4).trans (h.keep j hj hn),
   fun id o g h1 h2 hg=>(k.young id o g h1 h2 (NH hg h.size)).elim fun id2 ⟨o2,h3,h4⟩=>h.young id2 o2 g h3 h4 hg,
   N2 h.next k.next⟩
theorem nB (hy:∀ id o,tab.get id=some o -> id<nx) (hb:Below w.heap.size w w') (hold:∀ id,id<nx -> tab'.get id=tab.get id /\ L' id=L id) (hnew:∀ id o g,nx<=id -> tab'.get id=some o -> aF (L' id)=some g -> w.heap.size<=g) (hn:nx<=nx'):Fr cx w tab L nx w' tab' L' nx':=
 ⟨f8 hb hold hy hnew,hb.size,fun k hk _=>hb.block k hk,fun id o g h1 h2 hg=>by
  rcases NP id nx with hlt|hge
  .exact ⟨id,o,by rw [<- (hold id hlt).1];exact h1,by rw [<- (hold id hlt).2];exact h2⟩
  .exact absurd (hnew id o g hge h1 h2) (by omega),hn⟩
theorem Ho (id:Nat):Fr cx w st.tab L st.next w (fU st id).tab L (fU st id).next:=by
 unfold fU;split
 .rename_i e sz rows hid
  have hget:∀ k ok,af.get ((id,none) :: bE id sz rows st.tab) k=some ok -> ∃ ok',st.tab.get k=some ok' /\ ok.sz=ok'.sz:=fun k ok hk=>by
   rw [af.gc,cz] at hk;split at hk
   .cases hk
   .cases hg:st.tab.get k with
    | none=>simp [hg] at hk
    | some o'=>
     simp [hg] at hk;exact ⟨o',rfl,by rw [<- hk,FE]⟩
  refine ⟨⟨fun _ _=>rfl,fun b hb'=>⟨hb'.1,hb'.2.1,fun k ok hk=>?_⟩,fun k p _ hk=>?_⟩,Nz _,fun k hk hn=>rfl,fun k ok g h1 h2 _=>?_,Nz _⟩
  .obtain ⟨ok',h1,_⟩:=hget k ok hk;exact hb'.2.2 k ok' h1
  .unfold Kx at *
   cases ho:af.get ((id,none) :: bE id sz rows st.tab) k with
   | none=>simp [ho] at hk
   | some ok=>
    obtain ⟨ok',h1,h2⟩:=hget k ok ho;rw [h1];simpa [ho,h2] using hk
  .obtain ⟨ok',h3,_⟩:=hget k ok h1;exact ⟨k,ok',h3,h2⟩
 .exact Fr.refl
theorem pF:∀ (ids:List Nat) {st:aj},Fr cx w st.tab L st.next w (gt st ids).tab L (gt st ids).next
 | [],_=>Fr.refl
 | id :: ids,st=>(Ho id).trans (pF ids (st:=fU st id))
theorem oG:∀ (ids:List Nat) (st:aj),(gt st ids).next=st.next
 | [],_=>rfl
 | id :: ids,st=>by
  show (gt (fU st id) ids).next=_;rw [oG ids];unfold fU;split<;>rfl
theorem F6 {id k:Nat} {o:aE} (h:(fU st id).tab.get k=some o):∃ o',st.tab.get k=some o':=by
 unfold fU at h;split at h
 .simp only [af.gc] at h;rw [cz] at h;split at h
  .cases h
  .cases hg:st.tab.get k with
   | none=>rw [hg] at h;cases h
   | some o'=>exact ⟨o',rfl⟩
 .exact ⟨o,h⟩
theorem vQ:∀ (ids:List Nat) {st:aj} {k:Nat} {o:aE},(gt st ids).tab.get k=some o -> ∃ o',st.tab.get k=some o'
 | [],_,_,o,h=>⟨o,h⟩
 | id :: ids,st,k,o,h=>by
  obtain ⟨o1,h1⟩:=vQ ids (st:=fU st id) h;exact F6 h1
end
section
variable {P:Program} {cx:Cx} {a:Act} {w w':World} {tab:af} {st:aj} {L:Nat -> Value} {nx:Nat}
mutual
theorem ol {tab':af} {L':Nat -> Value} {ren:List Nat} (hS:∀ b,Sx cx w tab L b -> Sx cx w tab' L' b) (hK:∀ k p,Kx tab' L' k=some p -> Kx tab L (ren.getD k 0)=some p) :
  ∀ (r:AV) (v:Value),bx cx w tab L v (r.ren ren) -> bx cx w tab' L' v r
 | .any,v,_=>.tree (.any v)
 | .c x,v,h=>by
  obtain rfl:=RV.c_inv (v:=x) h;exact .tree (.c v)
 | .sl sz rows,v,h=>.tree ((RV.sl_inv h).mono (fun _ _=>rfl) hS)
 | .osl id,v,h=>.osl v id fun sz u hk=>RV.osl_inv h sz u (hK id _ hk)
 | .agg cs,v,h=>by
  simp only [AV.ren,be] at h;obtain ⟨xs,rfl,hn,hr⟩:=h.agg_inv;exact .agg xs cs (by simpa using hn) fun j x av h1 h2=>np hS hK cs j x av h2 (hr j x _ h1 (by simp [h2]))
 | .tup cs,v,h=>by
  simp only [AV.ren,be] at h;obtain ⟨xs,rfl,hn,hr⟩:=h.tup_inv;exact .tup xs cs (by simpa using hn) fun j x av h1 h2=>np hS hK cs j x av h2 (hr j x _ h1 (by simp [h2]))
 | .fn f cs,v,h=>by
  simp only [AV.ren,be] at h;obtain ⟨xs,rfl,hn,hr⟩:=h.fn_inv;exact .fn f xs cs (by simpa using hn) fun j x av h1 h2=>np hS hK cs j x av h2 (hr j x _ h1 (by simp [h2]))
 | .bfn f cs,v,h=>by
  simp only [AV.ren,be] at h;obtain ⟨xs,rfl,hn,hr⟩:=h.bfn_inv;exact .bfn f xs cs (by simpa using hn) fun j x av h1 h2=>np hS hK cs j x av h2 (hr j x _ h1 (by simp [h2]))
 | .rp cs,v,h=>by
  have:RT w (Sx cx w tab L) v (.rp cs):=by
   cases h with
   | tree h=>exact h
  exact .tree (this.mono (fun _ _=>rfl) hS)
 | .op id i j,v,h=>.op v id i j fun sz u hk=>RV.op_inv h sz u (hK id _ hk)
theorem np {tab':af} {L':Nat -> Value} {ren:List Nat} (hS:∀ b,Sx cx w tab L b -> Sx cx w tab' L' b) (hK:∀ k p,Kx tab' L' k=some p -> Kx tab L (ren.getD k 0)=some p) :
  ∀ (l:List AV) (j:Nat) (v:Value) (av:AV),l[j]? = some av -> bx cx w tab L v (av.ren ren) -> bx cx w tab' L' v av
 | [],j,v,av,h,_=>by simp at h
 | a :: l,0,v,av,h,hr=>by
  simp at h;subst h;exact ol hS hK a v hr
 | a :: l,j+1,v,av,h,hr=>np hS hK l j v av (by simpa using h) hr
end
mutual
theorem qE {S S':Nat -> Prop} {K K':Nat -> Option (Nat × Value)} {ren:List Nat} (hS:∀ b,S b -> S' b) (hK:∀ k p,K' k=some p -> K (ren.getD k 0)=some p) :
  ∀ (r:AV) (v:Value),RV w S K v (r.ren ren) -> RV w S' K' v r
 | .any,v,_=>.tree (.any v)
 | .c x,v,h=>by
  obtain rfl:=RV.c_inv (v:=x) h;exact .tree (.c v)
 | .sl sz rows,v,h=>.tree ((RV.sl_inv h).mono (fun _ _=>rfl) hS)
 | .osl id,v,h=>.osl v id fun sz u hk=>RV.osl_inv h sz u (hK id _ hk)
 | .agg cs,v,h=>by
  simp only [AV.ren,be] at h;obtain ⟨xs,rfl,hn,hr⟩:=h.agg_inv;exact .agg xs cs (by simpa using hn) fun j x av h1 h2=>iR hS hK cs j x av h2 (hr j x _ h1 (by simp [h2]))
 | .tup cs,v,h=>by
  simp only [AV.ren,be] at h;obtain ⟨xs,rfl,hn,hr⟩:=h.tup_inv;exact .tup xs cs (by simpa using hn) fun j x av h1 h2=>iR hS hK cs j x av h2 (hr j x _ h1 (by simp [h2]))
 | .fn f cs,v,h=>by
  simp only [AV.ren,be] at h;obtain ⟨xs,rfl,hn,hr⟩:=h.fn_inv;exact .fn f xs cs (by simpa using hn) fun j x av h1 h2=>iR hS hK cs j x av h2 (hr j x _ h1 (by simp [h2]))
 | .bfn f cs,v,h=>by
  simp only [AV.ren,be] at h;obtain ⟨xs,rfl,hn,hr⟩:=h.bfn_inv;exact .bfn f xs cs (by simpa using hn) fun j x av h1 h2=>iR hS hK cs j x av h2 (hr j x _ h1 (by simp [h2]))
 | .rp cs,v,h=>by
  have:RT w S v (.rp cs):=by
   cases h with
   | tree h=>exact h
  exact .tree (this.mono (fun _ _=>rfl) hS)
 | .op id i j,v,h=>.op v id i j fun sz u hk=>RV.op_inv h sz u (hK id _ hk)
theorem iR {S S':Nat -> Prop} {K K':Nat -> Option (Nat × Value)} {ren:List Nat} (hS:∀ b,S b -> S' b) (hK:∀ k p,K' k=some p -> K (ren.getD k 0)=some p) :
  ∀ (l:List AV) (j:Nat) (v:Value) (av:AV),l[j]? = some av -> RV w S K v (av.ren ren) -> RV w S' K' v av
 | [],j,v,av,h,_=>by simp at h
 | a :: l,0,v,av,h,hr=>by
  simp at h;subst h;exact qE hS hK a v hr
 | a :: l,j+1,v,av,h,hr=>iR hS hK l j v av (by simpa using h) hr
end
theorem RT.ren {w:World} {S:Nat -> Prop} {x:Value} {av:AV} (h:RT w S x av) (l:List Nat):av.ren l=av:=by
 have key:∀ (xs:Array Value) (cs:List AV),xs.size=cs.length -> (∀ (j:Nat) (x:Value) (av:AV),xs[j]? = some x -> cs[j]? = some av -> av.ren l=av) -> AV.renL l cs=cs:=fun xs cs hn ih=>by
  rw [be];apply Oh;intro j;rw [Nu]
  cases hj:cs[j]? with
  | none=>rfl
  | some av=>
   have hlt:j<xs.size:=by rw [hn];exact (Nw.1 hj).1
   simp [ih j _ av (Nx hlt) hj]
 induction h with
 | agg xs cs hn hr ih=>rw [AV.ren,key xs cs hn ih]
 | tup xs cs hn hr ih=>rw [AV.ren,key xs cs hn ih]
 | fn fi xs cs hn hr ih=>rw [AV.ren,key xs cs hn ih]
 | bfn fi xs cs hn hr ih=>rw [AV.ren,key xs cs hn ih]
 | _=>rfl
theorem RV.rename {w:World} {S S':Nat -> Prop} {K K':Nat -> Option (Nat × Value)} {l:List Nat} {m:Nat} {x:Value} {av:AV} (h:RV w S K x av) (hl:av.lt m) (hS:∀ b,S b -> S' b) (hK:∀ id p,id<m -> K' (l.getD id 0)=some p -> K id=some p):RV w S' K' x (av.ren l):=by
 have sub:∀ (xs:Array Value) (cs:List AV),AV.ltL m cs -> (∀ (j:Nat) (x:Value) (av:AV),xs[j]? = some x -> cs[j]? = some av -> av.lt m -> RV w S' K' x (av.ren l)) -> ∀ (j:Nat) (x:Value) (av:AV),xs[j]? = some x -> (cs.map (·.ren l))[j]? = some av -> RV w S' K' x av:=fun xs cs hl ih j x av h1 h2=>by
  rw [Nu] at h2
  cases hj:cs[j]? with
  | none=>simp [hj] at h2
  | some av'=>
   simp [hj] at h2;subst h2;exact ih j x av' h1 hj (ag.1 hl _ (Nr hj))
 induction h with
 | tree h=>
  rw [h.ren l];exact .tree (h.mono (fun _ _=>rfl) hS)
 | osl x id h=>exact .osl x _ fun sz v e=>h sz v (hK id _ hl e)
 | op x id i j h=>exact .op x _ i j fun sz v e=>h sz v (hK id _ hl e)
 | agg xs cs hn hr ih=>
  simp only [AV.ren,be];exact .agg xs _ (by simpa using hn) (sub xs cs hl ih)
 | tup xs cs hn hr ih=>
  simp only [AV.ren,be];exact .tup xs _ (by simpa using hn) (sub xs cs hl ih)
 | fn fi xs cs hn hr ih=>
  simp only [AV.ren,be];exact .fn fi xs _ (by simpa using hn) (sub xs cs hl ih)
 | bfn fi xs cs hn hr ih=>
  simp only [AV.ren,be];exact .bfn fi xs _ (by simpa using hn) (sub xs cs hl ih)
theorem Kl {l:List Nat} {n m:Nat}:∀ {av:AV},av.lt m -> (∀ j,j<m -> l.getD j 0<n) -> (av.ren l).lt n:=by
 intro av hl hj
 induction av using AV.rec (motive_2:=fun _=>True) (motive_3:=fun l2=>AV.ltL m l2 -> AV.ltL n (AV.renL l l2)) with
 | _=>simp_all [AV.lt,AV.ltL,AV.ren,AV.renL]
theorem jQ {t k e:TypeId} (h:oZ P t=some (k,e)):P.underlying t=some (.map k e):=by
 unfold oZ at h;split at h
 .rename_i k' e' hu;cases h;exact hu
 .cases h
theorem pQ {v x:Value} {av:AV} (hv:bx cx w tab L v av) (h:tn av=some x):v=x:=by
 cases av with
 | c u=>
  cases h;exact hv.c_inv
 | agg cs=>
  simp only [tn] at h;split at h
  .rename_i vs hvs;cases h;obtain ⟨xs,rfl,hn,hr⟩:=hv.agg_inv;rw [pK hvs hn hr]
  .cases h
 | _=>simp [tn] at h
theorem tV (hL:im cx w tab L) {id:Nat} {ents:List (Value × Value)} (hid:tab.get id=some (.map ents)) {v:Value} (hv:bx cx w tab L v (.osl id)) :
  ∃ b es ck,v=.map (some b) /\ L id=.map (some b) /\ cx.w0.heap.size<=b /\ w.heap[b]? = some (.map es ck) /\ es.toList.map (fun e=>(e.key,e.val))=ents:=by
 obtain ⟨b,es,ck,h1,h2,h3,h4⟩:=hL.objs id _ hid;refine ⟨b,es,ck,?_,h1,h2,h3,h4⟩;rw [hv.osl_inv _ _ (cD hid),h1]
theorem ve {kt:TypeId} {es:Array MapEntry} {kv:Value} (F:rl P kt (es.toList.map fun e=>(e.key,e.val)) kv) (w:World) :
  (Instr.checkKey es.isEmpty 10000 kt kv).run P w=.ok () w /\ (Instr.checkKey false 10000 kt kv).run P w=.ok () w /\
  ((((Instr.findKey kt kv es.toList).run P w=.ok none w) /\ ∀ e ∈ es.toList,e.key ≠ kv) \/ ∃ j e,(Instr.findKey kt kv es.toList).run P w=.ok (some (j,e.val)) w /\ es.toList[j]? = some e /\ e.key=kv):=by
 obtain ⟨K,⟨l,hl⟩,hall⟩:=F;refine ⟨K.check w _ hl,K.check w _ hl,?_⟩;exact K.find w hl es.toList fun e he=>hall (e.key,e.val) (NC.2 ⟨e,he,rfl⟩)
theorem ya {t kt et:TypeId} {z:Value} {es:Array MapEntry} {ck:Nat} {b:Nat} {kv:Value} (ht:oZ P t=some (kt,et)) (hz:bX P et=some z) (hb:w.heap[b]? = some (.map es ck)) (F:rl P kt (es.toList.map fun e=>(e.key,e.val)) kv) (ok:Bool) :
  ∃ r,yg (es.toList.map fun e=>(e.key,e.val)) kv r /\ ∃ u,(Instr.lookup t (.map (some b)) kv ok).run P w=.ok u w /\ ∀ (S:Nat -> Prop) (K:Nat -> Option (Nat × Value)),RV w S K u (kD ok z r):=by
 obtain ⟨h1,_,h3⟩:=ve F w;have hu:=jQ ht
 have tup2:∀ (S:Nat -> Prop) (K:Nat -> Option (Nat × Value)) (x y:Value),RV w S K (.tuple #[x,y]) (.tup [.c x,.c y]):=fun S K x y=>.tree (.tup _ _ rfl fun j v av h4 h5=>by
  match j with
  | 0=>simp at h4 h5;subst h4;subst h5;exact .c _
  | 1=>simp at h4 h5;subst h4;subst h5;exact .c _
  | j+2=>simp at h4)
 rcases h3 with ⟨h3,hno⟩|⟨j,e,h3,hj,hk⟩
 .refine ⟨none,fun e he=>?_,if ok=true then .tuple #[z,.bool false] else z,?_,fun S K=>?_⟩
  .obtain ⟨x,hx,rfl⟩:=NC.1 he;exact hno x hx
  .simp [Instr.lookup,Sem.run_bind,run_underlying hu,MapKept.run_getObj_map hb,h1,h3,wG hz]
  .unfold kD;cases ok
   .exact .tree (.c _)
   .exact tup2 S K _ _
 .refine ⟨some e.val,?_,if ok=true then .tuple #[e.val,.bool true] else e.val,?_,fun S K=>?_⟩
  .refine NC.2 ⟨e,Nr hj,?_⟩;rw [hk]
  .simp [Instr.lookup,Sem.run_bind,run_underlying hu,MapKept.run_getObj_map hb,h1,h3]
  .unfold kD;cases ok
   .exact .tree (.c _)
   .exact tup2 S K _ _
theorem CV (ok:Bool) (z:Value) (r:Option Value):(kD ok z r).lt nx:=by
 unfold kD;cases r<;>cases ok<;>simp [AV.lt,AV.ltL]
theorem ot {t:TypeId} {v u:Value} {m k:AV} {ok:Bool} {K:AV -> Prop} (hL:im cx w tab L) (hv:bx cx w tab L v m) (hk:bx cx w tab L u k) (h:jB P t tab m k ok K) :
  ∃ r av,K av /\ bx cx w tab L r av /\ av.lt nx /\ (Instr.lookup t v u ok).run P w=.ok r w:=by
 unfold jB at h;split at h
 .rename_i id;split at h
  .rename_i ents kt et hid ht;unfold zk at h;split at h
   .rename_i kv z hkv hz;obtain ⟨F,h⟩:=h;obtain ⟨b,es,ck,rfl,_,_,hb,rfl⟩:=tV hL hid hv;obtain rfl:=pQ hk hkv;obtain ⟨r,hr,x,hx,hrv⟩:=ya ht hz hb F ok;exact ⟨x,_,h r hr,hrv _ _,CV _ _ _,hx⟩
   .exact h.elim
  .exact h.elim
 .exact h.elim
theorem ka {b:Nat} {es:Array MapEntry} {ck:Nat} {o':Obj} (hb:w.heap[b]? = some (.map es ck)):∃ w',(setObj b o').run P w=.ok () w' /\ w'.heap[b]? = some o' /\ w'.heap.size=w.heap.size /\ (∀ k,k ≠ b -> w'.heap[k]? = w.heap[k]?) /\ w'.os=w.os /\ w'.tape=w.tape /\ w'.output=w.output:=by
 have hlt:b<w.heap.size:=(N8.1 hb).1;have hr:=MapKept.run_setObj_map (P:=P) o' hb;refine ⟨{ w with heap:=w.heap.setIfInBounds b o' },?_,?_,?_,fun k hk=>?_,rfl,rfl,rfl⟩
 .exact hr
 .simp [hlt]
 .simp
 .simp [Array.getElem?_setIfInBounds_ne (Ne.symm hk)]
theorem lA {id:Nat} {ents ents':List (Value × Value)} {b:Nat} {es es':Array MapEntry} {ck ck':Nat} (h:aG cx a w st L) (hid:st.tab.get id=some (.map ents)) (hLb:L id=.map (some b)) (hb:w.heap[b]? = some (.map es ck))
  (hes:es'.toList.map (fun e=>(e.key,e.val))=ents') (hw:w'.heap[b]? = some (.map es' ck')) (hs:w'.heap.size=w.heap.size) (ho:∀ k,k ≠ b -> w'.heap[k]? = w.heap[k]?) (hos:w'.os=w.os) (htp:w'.tape=w.tape) (hout:w'.output=w.output) (dst:Option Nat) :
  aG cx (a.put dst undef) w' ({ st with tab:=(id,some (.map ents')) :: st.tab }.put dst .any) L:=by
 obtain ⟨b',es2,ck2,h1,h2,h3,h4⟩:=h.lay.objs id _ hid;rw [hLb] at h1;cases h1;refine nj (o':=.map ents') (g:=b) h hid (by rw [hLb];rfl) rfl ho ⟨hos.trans h.lay.below.os,htp.trans h.lay.below.tape,hout.trans h.lay.below.output,by rw [hs];exact h.lay.below.size,fun k hk hX=>(ho k (by omega)).trans (h.lay.below.block k hk hX)⟩ hs (fun _=>⟨b,es',ck',hLb,h2,hw,hes⟩) trivial dst
theorem oB {t:TypeId} {v u x:Value} {m k y:AV} {K:aj -> Prop} (h:aG cx a w st L) (hv:bx cx w st.tab L v m) (hk:bx cx w st.tab L u k) (hx:bx cx w st.tab L x y) (dst:Option Nat) (hp:iv P t st m k y fun st=>K (st.put dst .any)) :
  ∃ w' st',(Instr.mapUpdate t v u x).run P w=.ok () w' /\ K st' /\ aG cx (a.put dst undef) w' st' L /\ w'.heap.size=w.heap.size /\ ∃ id ents ents',m=.osl id /\ st.tab.get id=some (.map ents) /\ st'={ st with tab:=(id,some (.map ents')) :: st.tab }.put dst .any /\ ∀ k,aF (L id) ≠ some k -> w'.heap[k]? = w.heap[k]?:=by
 unfold iv at hp;split at hp
 .rename_i id;split at hp
  .rename_i ents kt et hid ht;unfold pp at hp;split at hp
   .rename_i kv vv hkv hvv;obtain ⟨F,hp⟩:=hp;obtain ⟨b,es,ck,rfl,hLb,_,hb,rfl⟩:=tV h.lay hid hv;obtain rfl:=pQ hk hkv;obtain rfl:=pQ hx hvv;have hu:=jQ ht;obtain ⟨_,h1,h3⟩:=ve F w;rcases h3 with ⟨h3,hno⟩|⟨j,e,h3,hj,hke⟩
    .obtain ⟨w',hr,hw,hs,ho,hos,htp,hout⟩:=ka (P:=P) (o':=.map (es.push { key:=u,val:=x,born:=ck }) (ck+1)) hb;refine ⟨w',_,?_,hp (es.toList.map (fun e=>(e.key,e.val)) ++ [(u,x)]) (.inr ⟨fun e he=>?_,rfl⟩),lA h hid hLb hb (by simp) hw hs ho hos htp hout dst,hs,id,_,_,rfl,hid,rfl,fun k hk=>ho k fun e=>hk (by rw [hLb,e];rfl)⟩
     .simp [Instr.mapUpdate,Sem.run_bind,run_underlying hu,MapKept.run_getObj_map hb,h1,h3,hr]
     .obtain ⟨x',hx',rfl⟩:=NC.1 he;exact hno x' hx'
    .have hjl:j<es.size:=(by simpa using (Nw.1 hj).1);have hje:es[j]? = some e:=(by simpa using hj);obtain ⟨w',hr,hw,hs,ho,hos,htp,hout⟩:=ka (P:=P) (o':=.map (es.modify j fun e=>{ e with key:=u,val:=x }) ck) hb;obtain ⟨l,hl⟩:=F.key;refine ⟨w',_,?_,hp ((es.toList.map (fun e=>(e.key,e.val))).set j (u,x)) (.inl ⟨j,e.val,?_,rfl⟩),lA h hid hLb hb ?_ hw hs ho hos htp hout dst,hs,id,_,_,rfl,hid,rfl,fun k hk=>ho k fun e=>hk (by rw [hLb,e];rfl)⟩
     .have hks:=F.keyed.stays w hl;simp [Instr.mapUpdate,Sem.run_bind,run_underlying hu,MapKept.run_getObj_map hb,h1,h3,hje,hke,hks,hr]
     .rw [Nu,hj];simp [hke]
     .apply Oh;intro i;simp only [Nu,Array.toList_modify,O4,List.getElem?_modify,NI,Oy];by_cases hi:j=i
      .subst hi;simp [hjl,hje]
      .simp [hi]
   .exact hp.elim
  .exact hp.elim
 .exact hp.elim
theorem xh {t ty:TypeId} {v:Value} {m:AV} {K:aj -> Prop} (h:aG cx a w st L) (hv:bx cx w st.tab L v m) (dst:Option Nat) (hp:nZ P t st m dst K) :
  ∃ w' st',(Builtin.clear_ #[t] ty #[v]).run P w=.ok (.tuple #[]) w' /\ K st' /\ aG cx (a.put dst (.tuple #[])) w' st' L /\ w'.heap.size=w.heap.size /\ ∃ id ents,st.tab.get id=some (.map ents) /\ st'={ st with tab:=(id,some (.map [])) :: st.tab }.put dst .any /\ ∀ k,aF (L id) ≠ some k -> w'.heap[k]? = w.heap[k]?:=by
 unfold nZ at hp;split at hp
 .rename_i id;split at hp
  .rename_i ents p hid ht;obtain ⟨kt,et⟩:=p;obtain ⟨b,es,ck,rfl,hLb,_,hb,rfl⟩:=tV h.lay hid hv;have hu:=jQ ht;obtain ⟨w',hr,hw,hs,ho,hos,htp,hout⟩:=ka (P:=P) (o':=.map #[] ck) hb;have hc:=lA (a:=a) h hid hLb hb (es':=#[]) (ents':=[]) (by simp) hw hs ho hos htp hout none;refine ⟨w',_,?_,hp,ba hc (.tree (.any _)) trivial dst,hs,id,_,hid,rfl,fun k hk=>ho k fun e=>hk (by rw [hLb,e];rfl)⟩;simp [Builtin.clear_,Sem.run_bind,run_underlying hu,MapKept.run_getObj_map hb,hr]
  .exact hp.elim
 .exact hp.elim
theorem zr {t ty:TypeId} {v:Value} {m:AV} {K:AV -> Prop} (hL:im cx w tab L) (hv:bx cx w tab L v m) (h:sv P t tab m K):∃ r av,K av /\ bx cx w tab L r av /\ av.lt nx /\ (Builtin.len_ #[t] ty #[v]).run P w=.ok r w:=by
 unfold sv at h;split at h
 .rename_i id;split at h
  .rename_i ents p hid ht;obtain ⟨kt,et⟩:=p;obtain ⟨b,es,ck,rfl,_,_,hb,rfl⟩:=tV hL hid hv;refine ⟨.int .i64 es.size,_,h,?_,trivial,?_⟩
   .have:(es.toList.map fun e=>(e.key,e.val)).length=es.size:=by simp
    rw [this];exact .tree (.c _)
   .simp [Builtin.len_,Sem.run_bind,run_underlying (jQ ht),MapKept.run_getObj_map hb,goInt]
  .exact h.elim
 .exact h.elim
theorem qD:∀ (l:List aE) (k id:Nat),(lj k l).get id=if k<=id then l[id - k]? else none
 | [],k,id=>by simp [lj,af.get]
 | o :: l,k,id=>by
  simp only [lj,af.gc];rw [qD l (k+1) id];by_cases h:id=k
  .subst h;simp
  .rw [Ny h];by_cases h2:k<=id
   .rw [ND (by omega),ND h2,show id - k=(id - (k+1))+1 by omega];simp
   .rw [Ny (by omega),Ny h2]
theorem vm:∀ (l:List Nat) (b:af) (id:Nat),af.get (l.map (fun i=>(i,none)) ++ b) id=if id ∈ l then none else b.get id
 | [],b,id=>by simp
 | k :: l,b,id=>by
  simp only [Oz,OS,af.gc,OD];rw [vm l b id];by_cases h:id=k<;>simp [h]
theorem vG:∀ (l:List aE) (k id:Nat) (b:af),af.get (lj k l ++ b) id=if k<=id /\ id<k+l.length then l[id - k]? else b.get id
 | [],k,id,b=>by simp [lj];omega
 | o :: l,k,id,b=>by
  simp only [lj,OS,af.gc,NZ];rw [vG l (k+1) id b];by_cases h:id=k
  .subst h;simp
  .rw [Ny h];by_cases h2:k<=id /\ id<k+(l.length+1)
   .rw [ND (by omega),ND h2,show id - k=(id - (k+1))+1 by omega];simp
   .rw [Ny (by omega),Ny h2]
theorem qc:∀ {ids:List Nat} {os:List aE},yb tab ids os -> ids.length=os.length /\ ∀ (k:Nat) (o:aE),os[k]? = some o -> ∃ i,ids[k]? = some i /\ tab.get i=some o /\ qP o
 | [],[],_=>⟨rfl,fun k o h=>by simp at h⟩
 | i :: is,o :: os,h=>by
  obtain ⟨h1,h2⟩:=qc h.2;refine ⟨by simp [h1],fun k o' hk=>?_⟩
  cases k with
  | zero=>
   simp at hk;subst hk;exact ⟨i,by simp,h.1.1,h.1.2⟩
  | succ k=>simpa using h2 k o' (by simpa using hk)
 | [],_ :: _,h=>h.elim
 | _ :: _,[],h=>h.elim
theorem AZ {o:aE} (h:qP o) (n:Nat):o.lt n:=by cases o<;>first|trivial|exact h.elim
theorem tU {u:Option (Nat × List Nat)} {f:FuncId} {vs:Array Value} {avs:List AV} {K:AV -> aj -> Prop} (h:aG cx a w st L) (hn:vs.size=avs.length) (hv:∀ (j:Nat) (v:Value) (av:AV),vs[j]? = some v -> avs[j]? = some av -> bx cx w st.tab L v av) (hK:wO u P st f avs K) (dst:Option Nat) :
  fY P f /\ ∃ ids0:List Nat,(∀ p,u=some p -> ∀ id ∈ ids0,rj p.1 p.2 id) /\ Calls P f vs w fun e w'=>∃ v av st' L',e=.returned v /\ K av st' /\ aG cx (a.put dst v) w' (st'.put dst av) L' /\ Fr cx w st.tab L st.next w' st'.tab L' st'.next /\ (∀ id,id<st.next -> L' id=L id) /\ (∀ id o,id<st.next -> st'.tab.get id=some o -> ∃ o',st.tab.get id=some o') /\
   (∀ k,k<w.heap.size -> (∀ id ∈ ids0,∀ o,st.tab.get id=some o -> aF (L id) ≠ some k) -> w'.heap[k]? = w.heap[k]?) /\ ∀ id o g,st.next<=id -> st'.tab.get id=some o -> aF (L' id)=some g -> w.heap.size<=g \/ ∃ id' ∈ ids0,(∃ o,st.tab.get id'=some o) /\ aF (L id')=some g:=by
 rcases hK with hK|⟨ids,hl,hu,hK⟩
 rotate_left
 .have hf:=kZ ids h (fun j v av h1 h2=>⟨hv j v av h1 h2,ag.1 hl _ (Nr h2)⟩);have hnx:=oG ids st;refine ⟨by obtain ⟨Post,hd,_⟩:=hK;exact hd.1,ids,hu,?_⟩;refine (wZ (ff ids h) (by rw [hf.1];exact hn) (fun j v av h1 h2=>(hf.2 j v av h1 h2).1) hK dst).mono ?_;rintro e w' ⟨v,av,st',L',rfl,h1,h2,h3,h4,h5,h6⟩;refine ⟨v,av,st',L',rfl,h1,h2,(pF ids).trans (nB (fun id o hid=>((ff ids h).young id o hid).1) h3 h4 h5 h6),fun id hid=>(h4 id (by rw [hnx];exact hid)).2,fun id o hid ho=>?_,fun k hk _=>h3.block k hk,fun id o g hid ho hg=>.inl (h5 id o g (by rw [hnx];exact hid) ho hg)⟩;rw [(h4 id (by rw [hnx];exact hid)).1] at ho;exact vQ ids ho
 obtain ⟨t,cells,objs,rest,Post,b,ids,⟨hent,hlt,hm⟩,rfl,hb,hobjs,hnd,hu,hk⟩:=hK;obtain ⟨hil,hobj⟩:=qc hobjs;refine ⟨hent,b :: ids,hu,?_⟩
 have hidl:∀ i ∈ b :: ids,i<st.next:=fun i hi=>by
  rcases OD.1 hi with rfl|hi
  .exact (h.young _ _ hb).1
  .obtain ⟨k,hk'⟩:=OA hi;have hlen:=(Nw.1 hk').1;obtain ⟨i',h1,h2,_⟩:=hobj k _ (Nq (show k<objs.length by omega));rw [h1] at hk';cases hk';exact (h.young _ _ h2).1
 obtain ⟨T0,hT0⟩:∃ T0,T0=lj 0 (aE.box t cells :: objs):=⟨_,rfl⟩;obtain ⟨L0,hL0⟩:∃ L0:Nat -> Value,L0=fun k=>L ((b :: ids).getD k 0):=⟨_,rfl⟩
 have hget:∀ k o,T0.get k=some o -> ∃ i o',(b :: ids)[k]? = some i /\ (b :: ids).getD k 0=i /\ st.tab.get i=some o' /\ o'.sz=o.sz /\ ((k=0 /\ i=b /\ o=.box t cells) \/ (o'=o /\ qP o)):=fun k o hk'=>by
  rw [hT0,qD] at hk';simp only [Nv,if_true,Nat.sub_zero] at hk'
  cases k with
  | zero=>
   simp at hk';subst hk';exact ⟨b,_,rfl,rfl,hb,by simp [aE.sz,be],.inl ⟨rfl,rfl,rfl⟩⟩
  | succ k=>
   obtain ⟨i,h1,h2,h3⟩:=hobj k o (by simpa using hk');exact ⟨i,o,by simpa using h1,by simp [List.getD,h1],h2,rfl,.inr ⟨rfl,h3⟩⟩
 have hXown:∀ blk,(∃ id o,st.tab.get id=some o /\ aF (L id)=some blk /\ id ∉ b :: ids) -> cx.w0.heap.size<=blk /\ blk<w.heap.size:=fun blk ⟨id,o,h1,h2,_⟩=>(h.lay.objs id o h1).ge h2
 let cx':Cx:=⟨cx.F,cx.w0,fun blk=>cx.X blk \/ ∃ id o,st.tab.get id=some o /\ aF (L id)=some blk /\ id ∉ b :: ids,cx.amb,fun blk hX=>hX.elim (cx.exD blk) fun hX=>N2 cx.amb.le (hXown blk hX).1,cx.inF⟩
 have hS1:∀ blk,Sx cx w st.tab L blk -> Sx cx' w T0 L0 blk:=fun blk hS=>⟨hS.1,⟨hS.2.1.1,fun hX=>hX.elim hS.2.1.2 fun ⟨id,o,h1,h2,_⟩=>hS.2.2 id o h1 h2⟩,fun k o h1 h2=>by
  obtain ⟨i,o',_,h3,h4,_⟩:=hget k o h1;rw [hL0] at h2;simp only [h3] at h2;exact hS.2.2 i o' h4 h2⟩
 have hK1:∀ k p,Kx T0 L0 k=some p -> Kx st.tab L ((b :: ids).getD k 0)=some p:=fun k p hp=>by
  unfold Kx at *
  cases ho:T0.get k with
  | none=>simp [ho] at hp
  | some o=>
   obtain ⟨i,o',_,h3,h4,h5,_⟩:=hget k o ho;rw [h3,h4];rw [ho,hL0] at hp;simp only [h3] at hp;simpa [h5] using hp
 have hLay0:im cx' w T0 L0:=by
  refine ⟨⟨h.lay.below.os,h.lay.below.tape,h.lay.below.output,h.lay.below.size,fun k h1 h2=>h.lay.below.block k h1 fun hX=>h2 (.inl hX)⟩,fun k o hk'=>?_,fun k k' o o' g h1 h2 h3 h4=>?_,fun blk hX=>⟨?_,fun k o h1 h2=>?_⟩⟩
  .obtain ⟨i,o',_,h3,h4,_,h6⟩:=hget k o hk';have hLk:L0 k=L i:=by rw [hL0];simp only [h3]
   rw [hLk];have hob:=h.lay.objs i o' h4;rcases h6 with ⟨rfl,rfl,rfl⟩|⟨rfl,hpl⟩
   .rw [hb] at h4;cases h4;obtain ⟨g,cs,h7,h8,h9,h10,h11⟩:=hob;refine ⟨g,cs,h7,h8,h9,by simpa [be] using h10,fun j x av h12 h13=>?_⟩;have:=h11 j x (av.ren (i :: ids)) h12 (by rw [be,Nu,h13];rfl);exact ⟨qE hS1 hK1 av x this.1,this.2⟩
   .cases o' with
    | box=>exact hpl.elim
    | ghost=>exact hpl.elim
    | nest=>exact hpl.elim
    | map ents=>exact hob
    | row e sz rows=>
     obtain ⟨h7,xs,h8,h9,h10⟩:=hob;exact ⟨h7,xs,h8,h9,fun i' j row av h11 h12=>(h10 i' j row av h11 h12).elim fun x ⟨h13,h14⟩=>⟨x,h13,h14.mono (fun _ _=>rfl) hS1⟩⟩
  .obtain ⟨i,o1,h5,h6,h7,_⟩:=hget k o h1;obtain ⟨i',o2,h8,h9,h10,_⟩:=hget k' o' h2;rw [hL0] at h3 h4;simp only [h6,h9] at h3 h4;have:=h.lay.sep i i' o1 o2 g h7 h10 h3 h4;subst this;exact (List.getElem?_inj (Nw.1 h5).1 hnd).1 (h5.trans h8.symm)
  .rcases hX with hX | hX
   .exact (h.lay.ex blk hX).1
   .exact (hXown blk hX).2
  .obtain ⟨i,o1,h5,h6,h7,_⟩:=hget k o h1;rw [hL0] at h2;simp only [h6] at h2;rcases hX with hX|⟨id,o',h8,h9,h10⟩
   .exact (h.lay.ex blk hX).2 i o1 h7 h2
   .have h11:=h2;have:=h.lay.sep i id o1 o' blk h7 h8 h11 h9;subst this;exact h10 (Nr h5)
 have hcall:=hm cx' w L0 vs (by rw [<- hT0];exact hLay0) (by simpa [be] using hn) (fun j x av hx hav=>by
  rw [<- hT0];exact qE hS1 hK1 av x (hv j x _ hx (by rw [be,Nu,hav];rfl)))
 refine hcall.mono ?_;rintro e w' ⟨v,av,cells',objs',L1,rfl,hPost,hlay1,hrt,hL1,hcl,hlt',hpl,hz⟩;rw [<- hT0] at hz;obtain ⟨T1,hT1⟩:∃ T1,T1=lj 0 (aE.box t cells' :: objs'):=⟨_,rfl⟩;rw [<- hT1] at hz hlay1 hrt;obtain ⟨tab',htab'⟩:∃ tab',tab'=qU st b ids t cells' objs':=⟨_,rfl⟩;have hbn:=hidl b (Ob ..)
 have hget':∀ id,tab'.get id=if id=b then some (.box t (AV.renL (b :: List.range' st.next objs'.length) cells')) else if st.next<=id then objs'[id - st.next]? else if id ∈ ids then none else st.tab.get id:=fun id=>by
  rw [htab',qU,af.gc,vG,vm];by_cases h1:id=b
  .simp [h1]
  .rw [Ny h1,Ny h1];by_cases h2:st.next<=id
   .rw [ND h2];by_cases h3:id<st.next+objs'.length
    .rw [ND ⟨h2,h3⟩]
    .rw [Ny (by omega),NN (by omega),Ny (fun h4=>by have:=hidl id (N7 _ h4);omega)]
     cases hg:st.tab.get id with
     | none=>rfl
     | some o=>have:=(h.young id o hg).1;omega
   .rw [Ny (by omega),Ny h2]
 obtain ⟨L',hL'⟩:∃ L':Nat -> Value,L'=fun id=>if id<st.next then L id else L1 (id - st.next+1):=⟨_,rfl⟩;have hL'o:∀ id,id<st.next -> L' id=L id:=fun id hid=>by rw [hL'];simp [hid]
 have hL'n:∀ k,L' (st.next+k)=L1 (k+1):=fun k=>by
  rw [hL'];simp only;rw [Ny (by omega),Nat.add_sub_cancel_left]
 have hL1b:L1 0=L b:=by rw [hL1,hL0];rfl
 have hT1get:∀ k,T1.get k=if k=0 then some (.box t cells') else objs'[k - 1]?:=fun k=>by
  rw [hT1,qD]
  cases k with
  | zero=>simp
  | succ k=>simp
 -- an object behind it
 have hcases:∀ id o,tab'.get id=some o -> (id=b /\ o=.box t (AV.renL (b :: List.range' st.next objs'.length) cells')) \/ (∃ k,id=st.next+k /\ objs'[k]? = some o) \/ (id<st.next /\ id ≠ b /\ id ∉ ids /\ st.tab.get id=some o):=fun id o ho=>by
  rw [hget'] at ho;split at ho
  .rename_i e;cases ho;exact .inl ⟨e,rfl⟩
  .split at ho
   .rename_i h1 h2;exact .inr (.inl ⟨id - st.next,by omega,ho⟩)
   .split at ho
    .cases ho
    .rename_i h1 h2 h3;exact .inr (.inr ⟨by omega,h1,h3,ho⟩)
 have hT0blk:∀ k o g,T0.get k=some o -> aF (L0 k)=some g -> ∃ i ∈ b :: ids,(∃ o',st.tab.get i=some o') /\ aF (L i)=some g:=fun k o g h1 h2=>by
  obtain ⟨i,o',h3,h4,h5,_⟩:=hget k o h1;rw [hL0] at h2;simp only [h4] at h2;exact ⟨i,Nr h3,⟨o',h5⟩,h2⟩
 have hnewblk:∀ k o g,objs'[k]? = some o -> aF (L1 (k+1))=some g -> w.heap.size<=g \/ ∃ i ∈ b :: ids,(∃ o',st.tab.get i=some o') /\ aF (L i)=some g:=fun k o g h1 h2=>by
  rcases NP g w.heap.size with hg|hg
  .obtain ⟨id2,o2,h3,h4⟩:=hz.young (k+1) o g (by rw [hT1get];simpa using h1) h2 hg;exact .inr (hT0blk id2 o2 g h3 h4)
  .exact .inl hg
 have hkeep:∀ k,k<w.heap.size -> (∀ id ∈ b :: ids,∀ o,st.tab.get id=some o -> aF (L id) ≠ some k) -> w'.heap[k]? = w.heap[k]?:=fun k hk' hno=>hz.keep k hk' fun id o h1 h2=>by
  obtain ⟨i,hi,⟨o',h3⟩,h4⟩:=hT0blk id o k h1 h2;exact hno i hi o' h3 h4
 have hyoung':∀ id o g,tab'.get id=some o -> aF (L' id)=some g -> g<w.heap.size -> ∃ id2 o2,st.tab.get id2=some o2 /\ aF (L id2)=some g:=fun id o g h1 h2 h3=>by
  rcases hcases id o h1 with ⟨rfl,_⟩|⟨k,rfl,h4⟩|⟨h4,_,_,h5⟩
  .rw [hL'o _ hbn] at h2;exact ⟨_,_,hb,h2⟩
  .rw [hL'n] at h2;rcases hnewblk k o g h4 h2 with h5|⟨i,_,⟨o',h5⟩,h6⟩
   .omega
   .exact ⟨i,o',h5,h6⟩
  .rw [hL'o _ h4] at h2;exact ⟨id,o,h5,h2⟩
 have hsub:∀ blk,Sx cx w st.tab L blk -> Sx cx w' tab' L' blk:=fun blk hS=>⟨NH hS.1 hz.size,hS.2.1,fun id o h1 h2=>by
  obtain ⟨id2,o2,h3,h4⟩:=hyoung' id o blk h1 h2 hS.1;exact hS.2.2 id2 o2 h3 h4⟩
 have hext:kP cx w st.tab L st.next w' tab' L':=by
  refine ⟨fun blk hS=>hkeep blk hS.1 fun id _ o ho=>hS.2.2 id o ho,hsub,fun id p hid hp=>?_⟩;unfold Kx at *;rw [hL'o id hid] at hp
  cases ho:tab'.get id with
  | none=>simp [ho] at hp
  | some o=>
   rcases hcases id o ho with ⟨rfl,rfl⟩|⟨k,rfl,_⟩|⟨_,_,_,h5⟩
   .rw [hb];rw [ho] at hp;simpa [aE.sz,be,hcl] using hp
   .omega
   .rw [h5]
    rwa [ho] at hp
 have hS2:∀ blk,Sx cx' w' T1 L1 blk -> Sx cx w' tab' L' blk:=fun blk hS=>⟨hS.1,⟨hS.2.1.1,fun hX=>hS.2.1.2 (.inl hX)⟩,fun id o h1 h2=>by
  rcases hcases id o h1 with ⟨rfl,_⟩|⟨k,rfl,h4⟩|⟨h4,h5,h6,h7⟩
  .rw [hL'o _ hbn,<- hL1b] at h2;exact hS.2.2 0 _ (by rw [hT1get];rfl) h2
  .rw [hL'n] at h2;exact hS.2.2 (k+1) o (by rw [hT1get];simpa using h4) h2
  .rw [hL'o _ h4] at h2;exact hS.2.1.2 (.inr ⟨id,o,h7,h2,fun hm=>(OD.1 hm).elim h5 h6⟩)⟩
 have hK2:∀ id p,id<objs'.length+1 -> Kx tab' L' ((b :: List.range' st.next objs'.length).getD id 0)=some p -> Kx T1 L1 id=some p:=fun id p hid hp=>by
  unfold Kx at *
  cases id with
  | zero=>
   rw [PK,hget',ND rfl,hL'o _ hbn] at hp;rw [hT1get,hL1b];simpa [aE.sz,be] using hp
  | succ k=>
   have e:(b :: List.range' st.next objs'.length).getD (k+1) 0=st.next+k:=by
    have hk2:k<objs'.length:=(by omega);simp [List.getD,hk2]
   rw [e,hget',Ny (by omega),ND (by omega),hL'n] at hp;rw [hT1get];simpa using hp
 have hobjs':∀ id o,tab'.get id=some o -> gw cx w' tab' L' (L' id) o:=fun id o ho=>by
  rcases hcases id o ho with ⟨rfl,rfl⟩|⟨k,rfl,h4⟩|⟨h4,h5,h6,h7⟩
  .obtain ⟨g,cs,h1,h2,h3,h4,h5⟩:=hlay1.objs 0 _ (by rw [hT1get];rfl);rw [hL'o _ hbn,<- hL1b];refine ⟨g,cs,h1,h2,h3,by simpa [be] using h4,fun j x av h6 h7=>?_⟩;rw [be,Nu] at h7
   cases hj:cells'[j]? with
   | none=>simp [hj] at h7
   | some av'=>
    simp [hj] at h7;subst h7;have:=h5 j x av' h6 hj;exact ⟨this.1.rename (ag.1 hlt' _ (Nr hj)) hS2 hK2,this.2⟩
  .have hob:=hlay1.objs (k+1) o (by rw [hT1get];simpa using h4);rw [hL'n]
   cases o with
   | box=>exact (hpl _ (Nr h4)).elim
   | ghost=>exact (hpl _ (Nr h4)).elim
   | nest=>exact (hpl _ (Nr h4)).elim
   | map ents=>exact hob
   | row e sz rows=>
    obtain ⟨h7,xs,h8,h9,h10⟩:=hob;exact ⟨h7,xs,h8,h9,fun i' j row av h11 h12=>(h10 i' j row av h11 h12).elim fun x ⟨h13,h14⟩=>⟨x,h13,h14.mono (fun _ _=>rfl) hS2⟩⟩
  .rw [hL'o _ h4];have hob:=h.lay.objs id o h7;refine hext.obj hob (h.young id o h7).2 fun g hg=>hkeep g (hob.ge hg).2 fun i hi o' h8 h9=>?_;have:=h.lay.sep id i o o' g h7 h8 hg h9;subst this;exact (OD.1 hi).elim h5 h6
 have hin:∀ id o,tab'.get id=some o -> (id=b \/ ∃ k,id=st.next+k) -> ∃ k,T1.get k ≠ none /\ L' id=L1 k /\ (id=b -> k=0) /\ ∀ j,id=st.next+j -> k=j+1:=fun id o ho hor=>by
  rcases hcases id o ho with ⟨rfl,rfl⟩|⟨k,rfl,h4⟩|⟨h4,h5,_⟩
  .exact ⟨0,by rw [hT1get];simp,by rw [hL'o _ hbn,hL1b],fun _=>rfl,fun j hj=>by omega⟩
  .exact ⟨k+1,by rw [hT1get];simp [h4],hL'n k,fun e=>by omega,fun j hj=>by omega⟩
  .rcases hor with e | ⟨k,e⟩
   .exact absurd e h5
   .omega
 have hout:∀ id o id2 o2 g,tab'.get id=some o -> (id=b \/ ∃ k,id=st.next+k) -> id2<st.next -> id2 ≠ b -> id2 ∉ ids -> st.tab.get id2=some o2 -> aF (L' id)=some g -> aF (L id2) ≠ some g:=fun id o id2 o2 g h1 h2 h3 h4 h5 h6 h7 h8=>by
  obtain ⟨k,h9,h10,_⟩:=hin id o h1 h2;obtain ⟨o3,h11⟩:=Option.ne_none_iff_exists'.1 h9;rw [h10] at h7;exact (hlay1.ex g (.inr ⟨id2,o2,h6,h8,fun hm=>(OD.1 hm).elim h4 h5⟩)).2 k o3 h11 h7
 have hkind:∀ id o,tab'.get id=some o -> (id=b \/ ∃ k,id=st.next+k) \/ (id<st.next /\ id ≠ b /\ id ∉ ids /\ st.tab.get id=some o):=fun id o ho=>by
  rcases hcases id o ho with ⟨rfl,_⟩|⟨k,rfl,_⟩|h4
  .exact .inl (.inl rfl)
  .exact .inl (.inr ⟨k,rfl⟩)
  .exact .inr h4
 have hlay':im cx w' tab' L':=by
  refine ⟨⟨hlay1.below.os,hlay1.below.tape,hlay1.below.output,hlay1.below.size,fun k h1 h2=>?_⟩,hobjs',fun id id' o o' g h1 h2 h3 h4=>?_,fun blk hX=>⟨NH (h.lay.ex blk hX).1 hz.size,fun id o h1 h2=>?_⟩⟩
  .refine (hkeep k (NH h1 h.lay.below.size) fun id _ o ho hg=>?_).trans (h.lay.below.block k h1 h2);have:=((h.lay.objs id o ho).ge hg).1;omega
  .rcases hkind id o h1 with h5 | ⟨h5,h6,h7,h8⟩<;>rcases hkind id' o' h2 with h9 | ⟨h9,h10,h11,h12⟩
   .obtain ⟨k,h13,h14,h15,h16⟩:=hin id o h1 h5;obtain ⟨k',h17,h18,h19,h20⟩:=hin id' o' h2 h9;obtain ⟨o3,h21⟩:=Option.ne_none_iff_exists'.1 h13;obtain ⟨o4,h22⟩:=Option.ne_none_iff_exists'.1 h17;rw [h14] at h3;rw [h18] at h4;have e:=hlay1.sep k k' o3 o4 g h21 h22 h3 h4;rcases h5 with h5|⟨j,h5⟩<;>rcases h9 with h9|⟨j',h9⟩
    .rw [h5,h9]
    .have:=h15 h5;have:=h20 j' h9;omega
    .have:=h16 j h5;have:=h19 h9;omega
    .have:=h16 j h5;have:=h20 j' h9;omega
   .rw [hL'o _ h9] at h4;exact absurd h4 (hout id o id' o' g h1 h5 h9 h10 h11 h12 h3)
   .rw [hL'o _ h5] at h3;exact absurd h3 (hout id' o' id o g h2 h9 h5 h6 h7 h8 h4)
   .rw [hL'o _ h5] at h3;rw [hL'o _ h9] at h4;exact h.lay.sep id id' o o' g h8 h12 h3 h4
  .obtain ⟨id2,o2,h3,h4⟩:=hyoung' id o blk h1 h2 (h.lay.ex blk hX).1;exact (h.lay.ex blk hX).2 id2 o2 h3 h4
 have hy':∀ id o,tab'.get id=some o -> id<st.next+objs'.length /\ o.lt (st.next+objs'.length):=fun id o ho=>by
  rcases hcases id o ho with ⟨rfl,rfl⟩|⟨k,rfl,h4⟩|⟨h4,_,_,h5⟩
  .refine ⟨by omega,ag.2 fun x hx=>?_⟩;rw [be] at hx;obtain ⟨y,hy,rfl⟩:=NC.1 hx
   exact Kl (ag.1 hlt' y hy) fun j hj=>by
    cases j with
    | zero=>simpa using by omega
    | succ j=>
     have hj':j<objs'.length:=(by omega);simp [List.getD,hj']
  .have:=(Nw.1 h4).1;exact ⟨by omega,AZ (hpl _ (Nr h4)) _⟩
  .have:=h.young id o h5;refine ⟨by omega,?_⟩;have h6:st.next<=st.next+objs'.length:=(by omega)
   cases o with
   | box t cells=>exact ag.2 fun x hx=>AV.lt_mono h6 (ag.1 this.2 x hx)
   | row=>trivial
   | map=>trivial
   | nest e sz rows=>exact fun row hr=>ag.2 fun x hx=>AV.lt_mono h6 (ag.1 (this.2 row hr) x hx)
   | ghost vs env=>exact cW h6 this.2
 have hC:=eQ (w':=w') h hlay' hext (Pi _ _) hy' (.tree (hrt.mono (fun _ _=>rfl) hS2)) (hrt.lt _) dst;rw [htab'] at hC;refine ⟨v,av,_,L',rfl,hk av cells' objs' hPost,hC,?_,hL'o,fun id o hid ho=>?_,hkeep,fun id o g h1 h2 h3=>?_⟩
 .rw [<- htab'];exact ⟨hext,hz.size,fun k h1 h2=>hkeep k h1 fun id _ o ho=>h2 id o ho,hyoung',Pi _ _⟩
 .rw [<- htab'] at ho;rcases hcases id o ho with ⟨rfl,_⟩|⟨k,rfl,_⟩|⟨_,_,_,h5⟩
  .exact ⟨_,hb⟩
  .omega
  .exact ⟨o,h5⟩
 .rw [<- htab'] at h2;rcases hcases id o h2 with ⟨rfl,_⟩|⟨k,rfl,h4⟩|⟨h4,_⟩
  .omega
  .rw [hL'n] at h3;rcases hnewblk k o g h4 h3 with h5|⟨i,h5,h6,h7⟩
   .exact .inl h5
   .exact .inr ⟨i,h5,h6,h7⟩
  .omega
theorem pS {t:TypeId} (h:aG cx a w st L) (dst:Option Nat) :
  (Instr.makeMap t none).run P w=.ok (.map (some w.heap.size)) (w.alloc (.map #[] 0)) /\
  aG cx (a.put dst (.map (some w.heap.size))) (w.alloc (.map #[] 0)) ({ st with tab:=(st.next,some (.map [])) :: st.tab,next:=st.next+1 }.put dst (.osl st.next)) (a6 L st.next (.map (some w.heap.size))):=by
 refine ⟨run_makeMap t w,iW h ((Below.refl _ _).alloc (Nz _) _) (ob:=.map []) (fun g hg=>?_) (fun hx=>?_) trivial (fun hx=>?_) (Ot _) dst⟩
 .simp [aF] at hg;omega
 .exact ⟨w.heap.size,#[],0,rfl,h.lay.below.size,heap_alloc_new w _,rfl⟩
 .refine .osl _ _ fun sz u hk=>?_;simp [Kx,af.gc,a6] at hk;exact hk.2
end
end
end
end Go.Proofs.YtiaiihjmmfakdaaGreatDoor
